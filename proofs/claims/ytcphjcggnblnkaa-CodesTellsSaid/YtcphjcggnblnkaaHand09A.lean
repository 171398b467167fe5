/- binderylaw09.CodesTells answers true: walked by hand over the contracts of layer 9. -/
import Derived.Test.YtcphjcggnblnkaaHand09t
import Derived.Handy
namespace Go.Proofs.Ytcphjcggnblnkaa.Hand
open Go.RowKit Go.Proofs.YtcphjcggnblnkaaW.PrintWords Go.Proofs.YtcphjcggnblnkaaW.PrintLast Go.Proofs.YtcphjcggnblnkaaW.PrintMore Go.Proofs.Ytcphjcggnblnkaa.Num Go.Proofs.Ytcphjcggnblnkaa.Bits Go.Proofs.Ytcphjcggnblnkaa.P09r
set_option linter.unusedVariables false
set_option linter.unusedSimpArgs false
theorem refcodes_calls (A : Option Addr) (c : Nat) (l : List Int) (w : World) (hr : ReadsInt w .i64 A l.length l) (hc : l.length ≤ c) (hl : l.length ≤ 100000) :
    Calls Try.prog 29 #[.slice A l.length c] w fun e w' => ∃ v, e = .returned (.tuple #[v, .int .i64 (mayF l)]) ∧ Row w' w.heap.size 3 .i64 v (codesF l) ∧ Below w.heap.size w w' := by
  obtain ⟨k, hk⟩ := (refcodes_ev l hl).rounds
  exact (binderyref09_Codes.calls k A c l _ _ w (kdC_reads hr) hc hk).mono fun e w' ⟨v, h1, h2, h3⟩ => ⟨v, h1, Kd.own_of_R h2, h3⟩
theorem refcheck_calls (A : Option Addr) (c : Nat) (l : List Int) (w : World) (hr : ReadsInt w .i64 A l.length l) (hc : l.length ≤ c) :
    Calls Try.prog 32 #[.slice A l.length c] w fun e w' => e = .returned (.int .i64 (chkF l)) ∧ Drawn0 w w' := by
  obtain ⟨k, hk⟩ := (check_ev l).rounds
  exact binderyref09_Check.calls k A c l _ w (kdC_reads hr) hc hk
/-- What New answers: nil, or a tree. -/
theorem new_calls (A : Option Addr) (c : Nat) (l : List Int) (w : World) (hr : ReadsInt w .i64 A l.length l) (hc : l.length ≤ c) :
    Calls Try.prog 30 #[.slice A l.length c] w fun e w' => ∃ p, e = .returned (.tuple #[.pointer p, .int .i64 (mayF l)]) ∧ Below w.heap.size w w' ∧ ((mayF l ≠ 0 ∧ p = none) ∨ (mayF l = 0 ∧ ∃ tb, p = some ⟨tb, 0, none⟩ ∧ Tr w' w.heap.size tb l ∧ w.heap.size ≤ tb)) := by
  by_cases h : mayF l = 0
  · refine (new_ok A c l w hr hc h).mono fun e w' ⟨tb, h1, h2, h3, h4⟩ => ⟨_, by rw [h]; exact h1, h4, .inr ⟨h, tb, rfl, h2, h3⟩⟩
  · exact (new_bad A c l w hr hc h).mono fun e w' ⟨h1, h2⟩ => ⟨none, h1, h2, .inl ⟨h, rfl⟩⟩
set_option maxRecDepth 100000 in
set_option maxHeartbeats 4000000 in
theorem codesTells_core (A : Option Addr) (c : Nat) (l : List Int) (w : World) (hr : ReadsInt w .i64 A l.length l) (hc : l.length ≤ c) (hm : l.length ≤ maxLen) :
    Calls Try.prog 6 #[.slice A l.length c] w fun e w' => e = .returned (.bool true) ∧ Below w.heap.size w w' := by
  have hml := hm
  unfold maxLen at hml
  by_cases h1 : 1000 < l.length
  · have q1 : decide ((1000 : Int) < (l.length : Int)) = true := decide_eq_true (by omega)
    have q1n : decide (1000 < l.length) = true := decide_eq_true h1
    clear h1 hml hm hr
    go_enter Try.func6, Try.ntmps6
    go_wp2_with fail
    refine (trees_true _).mono ?_
    rintro e w1 ⟨rfl, hb1⟩
    go_wp2_with fail
    go_returns
    exact ⟨rfl, hb1⟩
  · have q1 : decide ((1000 : Int) < (l.length : Int)) = false := decide_eq_false (by omega)
    have q1n : decide (1000 < l.length) = false := decide_eq_false h1
    have HR := Aside0.mk hr
    have HC1 := fun (W : World) (h : ReadsInt W .i64 A l.length l) => codes_calls A c l W h hc
    have HC2 := fun (W : World) (h : ReadsInt W .i64 A l.length l) => refcodes_calls A c l W h hc (by omega)
    have HC3 := fun (W : World) (h : ReadsInt W .i64 A l.length l) => new_calls A c l W h hc
    have HC4 := fun (W : World) (h : ReadsInt W .i64 A l.length l) => check_calls A l.length c l W rfl h hc
    have HC5 := fun (W : World) (h : ReadsInt W .i64 A l.length l) => refcheck_calls A c l W h hc
    have hcl : (codesF l).length ≤ 1000000 := by unfold codesF; split <;> simp [code9_length]; omega
    have HCL := Aside0.mk hcl
    obtain ⟨cf, hcf⟩ : ∃ cf, cf = codesF l := ⟨_, rfl⟩
    obtain ⟨my, hmy⟩ : ∃ my, my = mayF l := ⟨_, rfl⟩
    obtain ⟨ck, hck⟩ : ∃ ck, ck = chkF l := ⟨_, rfl⟩
    rw [← hcf] at HCL
    simp only [← hcf, ← hmy] at HC1 HC2 HC3
    simp only [← hck] at HC4 HC5
    have K1 := Aside0.mk HC1
    have K2 := Aside0.mk HC2
    have K3 := Aside0.mk HC3
    have K4 := Aside0.mk HC4
    have K5 := Aside0.mk HC5
    clear HC1 HC2 HC3 HC4 HC5 hcl hcf hmy hck hr h1 hml hm
    go_enter Try.func6, Try.ntmps6
    go_wp2_with fail
    refine (K1.out _ HR.out).mono ?_
    rintro e w1 ⟨v, rfl, hv, hb1⟩
    have H1 : Aside0 (Row w1 w.heap.size 3 .i64 v cf ∧ ReadsInt w1 .i64 A l.length l ∧ Below w.heap.size w w1) := ⟨hv, HR.out.below hb1, hb1⟩
    clear hv hb1 HR K1
    go_wp2_with fail
    refine (K2.out _ H1.out.2.1).mono ?_
    rintro e w2 ⟨u, rfl, hu, hb2⟩
    have H2 : Aside0 (Row w2 w.heap.size 3 .i64 v cf ∧ ReadsInt w2 .i64 A l.length l ∧ Below w.heap.size w w2 ∧ Row w2 w.heap.size 3 .i64 u cf) := ⟨H1.out.1.below hb2, H1.out.2.1.below hb2, H1.out.2.2.trans (hb2.mono H1.out.2.2.size), hu.lower H1.out.2.2.size⟩
    clear hu hb2 H1 K2
    go_wp2_with fail
    refine (K3.out _ H2.out.2.1).mono ?_
    rintro e w3 ⟨p, rfl, hb3, hp⟩
    have H3 : Aside0 (Row w3 w.heap.size 3 .i64 v cf ∧ ReadsInt w3 .i64 A l.length l ∧ Below w.heap.size w w3 ∧ Row w3 w.heap.size 3 .i64 u cf) := ⟨H2.out.1.below hb3, H2.out.2.1.below hb3, H2.out.2.2.1.trans (hb3.mono H2.out.2.2.1.size), H2.out.2.2.2.below hb3⟩
    have hpm : (my ≠ 0 ∧ p = none) ∨ (my = 0 ∧ ∃ tb, p = some ⟨tb, 0, none⟩) := hp.elim .inl (fun h => .inr ⟨h.1, h.2.elim fun tb h => ⟨tb, h.1⟩⟩)
    have HP := Aside0.mk hpm
    clear hp hpm hb3 H2 K3
    go_wp2_with fail
    refine (K4.out _ H3.out.2.1).mono ?_
    rintro e w4 ⟨rfl, hb4⟩
    have H4 : Aside0 (Row w4 w.heap.size 3 .i64 v cf ∧ ReadsInt w4 .i64 A l.length l ∧ Below w.heap.size w w4 ∧ Row w4 w.heap.size 3 .i64 u cf) := ⟨H3.out.1.below hb4, H3.out.2.1.below hb4, H3.out.2.2.1.trans (hb4.mono H3.out.2.2.1.size), H3.out.2.2.2.below hb4⟩
    clear hb4 H3 K4
    go_wp2_with fail
    refine (K5.out _ H4.out.2.1).mono ?_
    rintro e w5 ⟨rfl, hd5⟩
    have H5 : Aside0 (Row w5 w.heap.size 3 .i64 v cf ∧ Below w.heap.size w w5 ∧ Row w5 w.heap.size 3 .i64 u cf) := by
      obtain ⟨n, rfl⟩ := hd5.out
      exact ⟨H4.out.1, pw_below_drewN H4.out.2.2.1 n, H4.out.2.2.2⟩
    clear hd5 H4 K5
    obtain ⟨A1, c1, rfl, hr1⟩ := H5.out.1.reads
    obtain ⟨A2, c2, rfl, hr2⟩ := H5.out.2.2.reads
    have hc1 := (Row.kdC H5.out.1).2.1
    have hc2 := (Row.kdC H5.out.2.2).2.1
    have K6 := Aside0.mk (same_calls w5 A1 A2 c1 c2 cf hr1 hr2 hc1 hc2 HCL.out)
    have HB := Aside0.mk H5.out.2.1
    clear hr1 hr2 hc1 hc2 H5 HCL
    have e1 : (ck == ck) = true := beq_self_eq_true _
    have e2 : (my == my) = true := beq_self_eq_true _
    go_wp2_with fail
    refine K6.out.mono ?_
    rintro e w6 ⟨rfl, hd6⟩
    have HB6 : Aside0 (Below w.heap.size w w6) := by
      obtain ⟨n, rfl⟩ := hd6.out
      exact ⟨pw_below_drewN HB.out n⟩
    clear hd6 HB K6
    rcases HP.out with ⟨hm, rfl⟩ | ⟨rfl, tb, rfl⟩
    · have e3 : (my == 0) = false := beq_eq_false_iff_ne.2 hm
      clear hm HP
      go_wp2_with fail
      refine (trees_true _).mono ?_
      rintro e w7 ⟨rfl, hb7⟩
      go_wp2_with fail
      go_returns
      exact ⟨rfl, HB6.out.trans (hb7.mono HB6.out.size)⟩
    · clear HP
      go_wp2_with fail
      refine (trees_true _).mono ?_
      rintro e w7 ⟨rfl, hb7⟩
      go_wp2_with fail
      go_returns
      exact ⟨rfl, HB6.out.trans (hb7.mono HB6.out.size)⟩
theorem codesTells_walk (a0 : Option Addr) (len0 cap0 : Nat) (z0 : List Int) (w : World) (w0 : (a0 = none ∧ len0 = 0 ∧ cap0 = 0 ∧ z0 = []) ∨ ∃ x, a0 = some x ∧ len0 ≤ cap0 ∧ cap0 ≤ maxLen ∧ z0.length = cap0 ∧ (∀ i, i < z0.length → w.cell? (x.add i) = some (.int .i64 (z0.getD i 0))) ∧ ∀ n ∈ z0, (Lit.int .i64 n).wf = true) (y0 : len0 * 8 ≤ 140737488351232) :
    Calls Try.prog 6 #[.slice a0 len0 cap0] w fun e w' => e = .returned (.bool true) ∧ Below w.heap.size w w' := by
  obtain ⟨l0, rfl, hr0, hm0, hw0, hc0⟩ := ReadsInt.ofRowC w0
  exact codesTells_core a0 cap0 l0 w hr0 hc0 hm0
end Go.Proofs.Ytcphjcggnblnkaa.Hand
