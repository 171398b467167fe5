/- binderylaw09.CodesPrefix answers true: walked by hand over the contracts of layer 9. -/
import Derived.Test.YtcphjcggnblnkaaHand09t
import Derived.Handy
namespace Go.Proofs.Ytcphjcggnblnkaa.Hand
open Go.RowKit Go.Proofs.YtcphjcggnblnkaaW.PrintWords Go.Proofs.YtcphjcggnblnkaaW.PrintLast Go.Proofs.YtcphjcggnblnkaaW.PrintMore Go.Proofs.Ytcphjcggnblnkaa.Num Go.Proofs.Ytcphjcggnblnkaa.Bits Go.Proofs.Ytcphjcggnblnkaa.P09r
set_option linter.unusedVariables false
set_option linter.unusedSimpArgs false
set_option maxRecDepth 100000 in
set_option maxHeartbeats 4000000 in
theorem codesPrefix_core (A : Option Addr) (c : Nat) (l : List Int) (w : World) (hr : ReadsInt w .i64 A l.length l) (hc : l.length ≤ c) (hm : l.length ≤ maxLen) :
    Calls Try.prog 7 #[.slice A l.length c] w fun e w' => e = .returned (.bool true) ∧ Below w.heap.size w w' := by
  have hml := hm
  unfold maxLen at hml
  by_cases h1 : 320 < l.length
  · have q1 : decide ((320 : Int) < (l.length : Int)) = true := decide_eq_true (by omega)
    have q1n : decide (320 < l.length) = true := decide_eq_true h1
    clear h1 hml hm hr
    go_enter Try.func7, Try.ntmps7
    go_wp2_with fail
    refine (trees_true _).mono ?_
    rintro e w1 ⟨rfl, hb1⟩
    go_wp2_with fail
    go_returns
    exact ⟨rfl, hb1⟩
  · have q1 : decide ((320 : Int) < (l.length : Int)) = false := decide_eq_false (by omega)
    have q1n : decide (320 < l.length) = false := decide_eq_false h1
    have HR := Aside0.mk hr
    have K1 := Aside0.mk (codes_calls A c l w hr hc)
    by_cases hm0 : mayF l = 0
    · rw [hm0] at K1
      have hcl := codesF_length hm0
      have HM := Aside0.mk hm0
      have HX := Aside0.mk (may_zero hm0).2
      obtain ⟨cf, hcf⟩ : ∃ cf, cf = codesF l := ⟨_, rfl⟩
      rw [← hcf] at K1 hcl
      have HCF := Aside0.mk hcf
      clear hcf hm0 hr hm
      go_enter Try.func7, Try.ntmps7
      go_wp2_with fail
      refine K1.out.mono ?_
      rintro e w1 ⟨v, rfl, hv, hb1⟩
      have HB := Aside0.mk hb1
      have HR1 := Aside0.mk (HR.out.below hb1)
      obtain ⟨A2, c2, rfl, hr2⟩ := hv.reads
      have HR2 := Aside0.mk hr2
      clear hv hb1 hr2 K1
      have e1 : ((cf.length : Int) != (l.length : Int)) = false := by rw [hcl]; simp
      have e1n : (cf.length != l.length) = false := by rw [hcl]; simp
      go_wp2_with fail
      have hcl' := hcl
      have HCLL := Aside0.mk hcl
      clear hcl hcl'
      go_loopw [5] (fun v5 wr => ∃ (i : Nat), i ≤ l.length ∧ v5 = .int .i64 i ∧ Drawn0 w1 wr) (fun v5 _ => l.length - (intOf v5).toNat)
      case atStart => exact ⟨0, by omega, rfl, Drawn0.refl _⟩
      case round =>
        obtain ⟨i, hi, rfl, ⟨nd, rfl⟩⟩ := hrel
        by_cases hlt : i < l.length
        · have q3 : decide ((i : Int) < (l.length : Int)) = true := decide_eq_true (by omega)
          have q3n : decide (i < l.length) = true := decide_eq_true hlt
          obtain ⟨ad, had, hcell⟩ := ReadsInt.at_ HR1.out (i : Int) (by omega) (by omega)
          cases had
          obtain ⟨ad2, had2, hcell2⟩ := ReadsInt.at_ HR2.out (i : Int) (by omega) (by have := HCLL.out; omega)
          cases had2
          rw [Int.toNat_natCast, rd_nat] at hcell hcell2
          have hmem : l.getD i 0 ∈ l := by rw [List.getD_eq_getElem?_getD, List.getElem?_eq_getElem hlt]; exact List.getElem_mem _
          have hx := HX.out _ hmem
          obtain ⟨n, hn⟩ := Int.eq_ofNat_of_zero_le hx.1
          rw [hn] at hcell hx
          by_cases h0 : n = 0
          · subst h0
            go_wp2_with fail
            go_roundw
            case rel => exact ⟨i + 1, by omega, by go_num, ⟨nd, rfl⟩⟩
            case measure => simp [intOf]; omega
          · have e0 : ((n : Int) == 0) = false := beq_eq_false_iff_ne.2 (by omega)
            obtain ⟨b1, b2, b3, b4, b5⟩ := code_between HM.out i hlt n hn (by omega)
            rw [← HCF.out] at b1 b2 b4 b5
            obtain ⟨x, hxx⟩ : ∃ x, x = cf.getD i 0 := ⟨_, rfl⟩
            rw [← hxx] at b1 b2 b4 b5 hcell2
            have HXX := Aside0.mk hxx
            have q4 : decide (x < 0) = false := decide_eq_false (by omega)
            have q5 : x / 2 ^ n = 0 := Int.ediv_eq_zero_of_lt b5 b4
            clear b1 b2 hxx hmem
            go_wp2_with fail
            go_big_region
            go_wp2_with fail
            have HI : Aside0 (_ ∧ _ ∧ _ ∧ _) := ⟨hn, b3, HXX.out, (show 0 < n by omega)⟩
            clear hx hn h0 e0 b3 b5 b4 HXX q4 q5
            go_loopw [6] (fun v6 wr => ∃ (j : Nat), j ≤ l.length ∧ v6 = .int .i64 j ∧ Drawn0 w1 wr) (fun v6 _ => l.length - (intOf v6).toNat)
            case atStart => exact ⟨0, by omega, rfl, ⟨_, rfl⟩⟩
            case round =>
              obtain ⟨j, hj, rfl, ⟨nd2, rfl⟩⟩ := hrel
              by_cases hlj : j < l.length
              · have r3 : decide ((j : Int) < (l.length : Int)) = true := decide_eq_true (by omega)
                have r3n : decide (j < l.length) = true := decide_eq_true hlj
                by_cases hji : j = i
                · have r4 : ((j : Int) != (i : Int)) = false := by subst hji; simp
                  have r4n : (j != i) = false := by subst hji; simp
                  go_wp2_with fail
                  go_big_region
                  go_wp2_with fail
                  go_roundw
                  case rel => exact ⟨j + 1, by omega, by go_num, ⟨_, rfl⟩⟩
                  case measure => simp [intOf]; omega
                · have r4 : ((j : Int) != (i : Int)) = true := by simp; omega
                  have r4n : (j != i) = true := by simpa using hji
                  obtain ⟨ad3, had3, hcel3⟩ := ReadsInt.at_ HR1.out (j : Int) (by omega) (by omega)
                  cases had3
                  obtain ⟨ad4, had4, hcel4⟩ := ReadsInt.at_ HR2.out (j : Int) (by omega) (by have := HCLL.out; omega)
                  cases had4
                  rw [Int.toNat_natCast, rd_nat] at hcel3 hcel4
                  have hmem2 : l.getD j 0 ∈ l := by rw [List.getD_eq_getElem?_getD, List.getElem?_eq_getElem hlj]; exact List.getElem_mem _
                  have hx2 := HX.out _ hmem2
                  obtain ⟨m, hm2⟩ := Int.eq_ofNat_of_zero_le hx2.1
                  rw [hm2] at hcel3 hx2
                  by_cases hmn : n ≤ m
                  · have r5 : decide ((n : Int) ≤ (m : Int)) = true := decide_eq_true (by omega)
                    have r5n : decide (n ≤ m) = true := decide_eq_true hmn
                    have hnp := no_prefix HM.out i j n m hlt hlj HI.out.1 hm2 HI.out.2.2.2 hmn hji
                    have hcb := (code_between HM.out j hlj m hm2 (by have := HI.out.2.2.2; omega)).2.2.2
                    rw [← HCF.out] at hnp hcb
                    rw [← HI.out.2.2.1] at hnp
                    obtain ⟨y, hy⟩ : ∃ y, y = cf.getD j 0 := ⟨_, rfl⟩
                    rw [← hy] at hnp hcel4 hcb
                    obtain ⟨d, hd⟩ : ∃ d, d = m - n := ⟨_, rfl⟩
                    rw [← hd] at hnp
                    have r6 : (y / 2 ^ d == x) = false := beq_eq_false_iff_ne.2 hnp
                    have r7 : (m : Int) - (n : Int) = (d : Int) := by omega
                    have hd15 : d ≤ 15 := by omega
                    clear hd
                    clear hy hnp hmem2 hx2 hm2
                    go_wp2_with fail
                    go_big_region
                    go_wp2_with fail
                    go_roundw
                    case rel => exact ⟨j + 1, by omega, by go_num, ⟨_, rfl⟩⟩
                    case measure => simp [intOf]; omega
                  · have r5 : decide ((n : Int) ≤ (m : Int)) = false := decide_eq_false (by omega)
                    have r5n : decide (n ≤ m) = false := decide_eq_false hmn
                    clear hcel4
                    go_wp2_with fail
                    go_big_region
                    go_wp2_with fail
                    go_roundw
                    case rel => exact ⟨j + 1, by omega, by go_num, ⟨_, rfl⟩⟩
                    case measure => simp [intOf]; omega
              · have r3 : decide ((j : Int) < (l.length : Int)) = false := decide_eq_false (by omega)
                have r3n : decide (j < l.length) = false := decide_eq_false hlj
                go_wp2_with fail
                go_roundw
                case rel => exact ⟨i + 1, by omega, by go_num, ⟨_, rfl⟩⟩
                case measure => simp [intOf]; omega
        · have q3 : decide ((i : Int) < (l.length : Int)) = false := decide_eq_false (by omega)
          have q3n : decide (i < l.length) = false := decide_eq_false hlt
          go_wp2_with fail
          refine (trees_true _).mono ?_
          rintro e w8 ⟨rfl, hb8⟩
          go_wp2_with fail
          go_returns
          exact ⟨rfl, (pw_below_drewN HB.out nd).trans (hb8.mono (pw_below_drewN HB.out nd).size)⟩
    · obtain ⟨my, hmy⟩ : ∃ my, my = mayF l := ⟨_, rfl⟩
      have he : codesF l = [] := by unfold codesF; rw [if_neg hm0]
      rw [he, ← hmy] at K1
      rw [← hmy] at hm0
      have e3 : (my != 0) = true := by simpa using hm0
      clear hmy he hm0 hr hm
      go_enter Try.func7, Try.ntmps7
      go_wp2_with fail
      refine K1.out.mono ?_
      rintro e w1 ⟨v, rfl, hv, hb1⟩
      obtain ⟨A2, c2, rfl, hr2⟩ := hv.reads
      clear hv hr2 K1
      go_wp2_with fail
      refine (trees_true _).mono ?_
      rintro e w2 ⟨rfl, hb2⟩
      go_wp2_with fail
      go_returns
      exact ⟨rfl, hb1.trans (hb2.mono hb1.size)⟩
theorem codesPrefix_walk (a0 : Option Addr) (len0 cap0 : Nat) (z0 : List Int) (w : World) (w0 : (a0 = none ∧ len0 = 0 ∧ cap0 = 0 ∧ z0 = []) ∨ ∃ x, a0 = some x ∧ len0 ≤ cap0 ∧ cap0 ≤ maxLen ∧ z0.length = cap0 ∧ (∀ i, i < z0.length → w.cell? (x.add i) = some (.int .i64 (z0.getD i 0))) ∧ ∀ n ∈ z0, (Lit.int .i64 n).wf = true) (y0 : len0 * 8 ≤ 140737488351232) :
    Calls Try.prog 7 #[.slice a0 len0 cap0] w fun e w' => e = .returned (.bool true) ∧ Below w.heap.size w w' := by
  obtain ⟨l0, rfl, hr0, hm0, hw0, hc0⟩ := ReadsInt.ofRowC w0
  exact codesPrefix_core a0 cap0 l0 w hr0 hc0 hm0
end Go.Proofs.Ytcphjcggnblnkaa.Hand
