/- binderylaw09.CodesReads answers true: walked by hand over the contracts of layer 9. -/
import Derived.Test.YtcphjcggnblnkaaHand09t
import Derived.Handy
namespace Go.Proofs.Ytcphjcggnblnkaa.Hand
open Go.RowKit Go.Proofs.YtcphjcggnblnkaaW.PrintWords Go.Proofs.YtcphjcggnblnkaaW.PrintLast Go.Proofs.YtcphjcggnblnkaaW.PrintMore Go.Proofs.Ytcphjcggnblnkaa.Num Go.Proofs.Ytcphjcggnblnkaa.Bits Go.Proofs.Ytcphjcggnblnkaa.P09r
set_option linter.unusedVariables false
set_option linter.unusedSimpArgs false
theorem rdT_le (s : ByteArray) (many syms : List Int) (lg : Nat) : ∀ (d n : Nat) (code first at_ : Int) (p : Nat), p ≤ 8 * s.size → p ≤ (rdT s many syms lg d n code first at_ p).2.2 ∧ (rdT s many syms lg d n code first at_ p).2.2 ≤ 8 * s.size
  | 0, n, code, first, at_, p, h => by rw [rdT]; exact ⟨Nat.le_refl _, h⟩
  | d + 1, n, code, first, at_, p, h => by
    rw [rdT]
    split
    · split
      · split
        · have := rdT_le s many syms lg d (n + 1) (2 * code + val s p 1) (first * 2 + many.getD n 0) (at_ + many.getD n 0) (p + 1) (by omega)
          omega
        · dsimp only; omega
      · dsimp only; omega
    · dsimp only; omega
/-- What a tree reads, from a place on. -/
def rdS (s : ByteArray) (l : List Int) (p : Nat) : Int × Int × Nat := rdT s (cntL l) (symA l 16) (lgA l 16).toNat 16 1 0 0 0 p
theorem rdS_le (s : ByteArray) (l : List Int) (p : Nat) (h : p ≤ 8 * s.size) : (rdS s l p).2.2 ≤ 8 * s.size := (rdT_le s _ _ _ _ _ _ _ _ p h).2
theorem tread_calls (w : World) (B tb g : Nat) (l : List Int) (s : ByteArray) (p : Nat) (hm : mayF l = 0) (hT : Tr w B tb l) (hR : RdAt w g s p) (hs : s.size ≤ 1000000) :
    Calls Try.prog 35 #[.pointer (some ⟨tb, 0, none⟩), .pointer (some ⟨g, 0, none⟩)] w fun e w' =>
      e = .returned (.tuple #[.int .i64 (rdS s l p).1, .int .i64 (rdS s l p).2.1]) ∧ RdAt w' g s (rdS s l p).2.2 ∧ Fr w w' (· = g) := by
  obtain ⟨lg, hlg, h15⟩ := lgA_nat l
  have hl := (may_zero hm).1
  have hsy := symA_small l
  unfold Tr at hT
  rw [hlg] at hT
  unfold rdS
  rw [hlg, Int.toNat_natCast]
  exact read_calls w B tb g l (codesF l) (cntL l) (symA l 16) lg s p hT hR hs h15 (cntL_range l) (fun n hn => sumM_le (may_cnt hm) n (by omega)) (by omega)
theorem refread_calls (w : World) (A1 A2 A3 : Option Addr) (c1 c2 c3 : Nat) (l : List Int) (s : ByteArray) (p : Nat) (hm : mayF l = 0) (hr1 : ReadsInt w .i64 A1 l.length l) (hr2 : ReadsInt w .i64 A2 (codesF l).length (codesF l)) (hr3 : ReadsInt w .i64 A3 (flat (bytesOf s)).length (flat (bytesOf s)))
    (hc1 : l.length ≤ c1) (hc2 : (codesF l).length ≤ c2) (hc3 : (flat (bytesOf s)).length ≤ c3) (hs : s.size ≤ 1000000) (hp : p ≤ 8 * s.size) :
    Calls Try.prog 36 #[.slice A1 l.length c1, .slice A2 (codesF l).length c2, .slice A3 (flat (bytesOf s)).length c3, .int .i64 (p : Int)] w fun e w' =>
      e = .returned (.tuple #[.int .i64 (rdS s l p).1, .int .i64 ((rdS s l p).2.2 : Nat), .int .i64 (rdS s l p).2.1]) ∧ Below w.heap.size w w' := by
  obtain ⟨lg, hlg, h15⟩ := lgA_nat l
  obtain ⟨k, hk⟩ := (refread_ev hm s hs lg hlg p hp (r := rdS s l p) (by unfold rdS; rw [hlg, Int.toNat_natCast])).rounds
  exact binderyref09_Read.calls k A1 c1 l A2 c2 (codesF l) A3 c3 _ p _ _ _ w (kdC_reads hr1) hc1 (kdC_reads hr2) hc2 (kdC_reads hr3) hc3 hk
theorem bits_calls (s : ByteArray) (w : World) (hs : s.size ≤ 1000000) :
    Calls Try.prog 34 #[.string s] w fun e w' => ∃ v, e = .returned v ∧ Row w' w.heap.size 3 .i64 v (flat (bytesOf s)) ∧ Below w.heap.size w w' := by
  obtain ⟨k, hk⟩ := (bits_ev s hs).rounds
  exact (binderyref09_Bits.calls k s _ w hk).mono fun e w' ⟨v, h1, h2, h3⟩ => ⟨v, h1, Kd.own_of_R h2, h3⟩
/-- What the law's loop holds. -/
structure RdMid (w W : World) (v1 v2 : Value) (l bs : List Int) (tb r : Nat) (s : ByteArray) (p : Nat) : Prop where
  cs : Row W w.heap.size 3 .i64 v1 (codesF l)
  bits : Row W w.heap.size 3 .i64 v2 bs
  tr : Tr W w.heap.size tb l
  rd : RdAt W r s p
  below : Below w.heap.size w W
  gr : w.heap.size ≤ r
theorem RdMid.read {w W W' : World} {v1 v2 : Value} {l bs : List Int} {tb r : Nat} {s : ByteArray} {p q : Nat} (h : RdMid w W v1 v2 l bs tb r s p) (k : RdAt W' r s q) (hf : Fr W W' (· = r)) : RdMid w W' v1 v2 l bs tb r s q :=
  ⟨h.cs.frR h.rd hf, h.bits.frR h.rd hf, h.tr.frR h.rd hf, k, h.below.trans (hf.below (by rintro j rfl; exact h.gr) h.below.size), h.gr⟩
theorem RdMid.below_ {w W W' : World} {v1 v2 : Value} {l bs : List Int} {tb r : Nat} {s : ByteArray} {p : Nat} (h : RdMid w W v1 v2 l bs tb r s p) (hb : Below W.heap.size W W') : RdMid w W' v1 v2 l bs tb r s p :=
  ⟨h.cs.below hb, h.bits.below hb, h.tr.below hb, h.rd.below hb, h.below.trans (hb.mono h.below.size), h.gr⟩
theorem RdMid.drawn {w W W' : World} {v1 v2 : Value} {l bs : List Int} {tb r : Nat} {s : ByteArray} {p : Nat} (h : RdMid w W v1 v2 l bs tb r s p) (hd : Drawn0 W W') : RdMid w W' v1 v2 l bs tb r s p := by
  obtain ⟨n, rfl⟩ := hd.out
  exact ⟨h.cs, h.bits, h.tr.drawn ⟨n, rfl⟩, h.rd.drawn ⟨n, rfl⟩, pw_below_drewN h.below n, h.gr⟩
set_option maxRecDepth 100000 in
set_option maxHeartbeats 4000000 in
theorem codesReads_core (A : Option Addr) (c : Nat) (l : List Int) (s : ByteArray) (w : World) (hr : ReadsInt w .i64 A l.length l) (hc : l.length ≤ c) (hm : l.length ≤ maxLen) :
    Calls Try.prog 8 #[.slice A l.length c, .string s] w fun e w' => e = .returned (.bool true) ∧ Below w.heap.size w w' := by
  have hml := hm
  unfold maxLen at hml
  by_cases h1 : 320 < l.length ∨ 60 < s.size
  · have q1 : (decide ((320 : Int) < (l.length : Int)) || decide ((60 : Int) < (s.size : Int))) = true := by simp; omega
    clear hml hm hr
    by_cases h2 : 320 < l.length
    · have q2 : decide ((320 : Int) < (l.length : Int)) = true := decide_eq_true (by omega)
      have q2n : decide (320 < l.length) = true := decide_eq_true h2
      clear h1 q1
      go_enter Try.func8, Try.ntmps8
      go_wp2_with fail
      refine (trees_true _).mono ?_
      rintro e w1 ⟨rfl, hb1⟩
      go_wp2_with fail
      go_returns
      exact ⟨rfl, hb1⟩
    · have q2 : decide ((320 : Int) < (l.length : Int)) = false := decide_eq_false (by omega)
      have q2n : decide (320 < l.length) = false := decide_eq_false h2
      have q3 : decide ((60 : Int) < (s.size : Int)) = true := decide_eq_true (by omega)
      have q3n : decide (60 < s.size) = true := decide_eq_true (by omega)
      clear h1 q1
      go_enter Try.func8, Try.ntmps8
      go_wp2_with fail
      refine (trees_true _).mono ?_
      rintro e w1 ⟨rfl, hb1⟩
      go_wp2_with fail
      go_returns
      exact ⟨rfl, hb1⟩
  · have q2 : decide ((320 : Int) < (l.length : Int)) = false := decide_eq_false (by omega)
    have q2n : decide (320 < l.length) = false := decide_eq_false (by omega)
    have q3 : decide ((60 : Int) < (s.size : Int)) = false := decide_eq_false (by omega)
    have q3n : decide (60 < s.size) = false := decide_eq_false (by omega)
    have hs60 : s.size ≤ 60 := by omega
    have HR := Aside0.mk hr
    have HC3 := fun (W : World) (h : ReadsInt W .i64 A l.length l) => new_calls A c l W h hc
    have HC2 := fun (W : World) (h : ReadsInt W .i64 A l.length l) => refcodes_calls A c l W h hc (by omega)
    by_cases hm0 : mayF l = 0
    · have HM := Aside0.mk hm0
      have K3 := Aside0.mk (new_ok A c l w hr hc hm0)
      rw [hm0] at HC2
      have K2 := Aside0.mk HC2
      clear HC2 HC3 hm0 hr hm h1
      go_enter Try.func8, Try.ntmps8
      go_wp2_with fail
      refine K3.out.mono ?_
      rintro e w1 ⟨tb, rfl, ht, htb, hb1⟩
      have H1 : Aside0 (Tr w1 w.heap.size tb l ∧ ReadsInt w1 .i64 A l.length l ∧ Below w.heap.size w w1) := ⟨ht, HR.out.below hb1, hb1⟩
      clear ht htb hb1 K3
      go_wp2_with fail
      refine (K2.out _ H1.out.2.1).mono ?_
      rintro e w2 ⟨v, rfl, hv, hb2⟩
      have H2 : Aside0 (Tr w2 w.heap.size tb l ∧ Below w.heap.size w w2 ∧ Row w2 w.heap.size 3 .i64 v (codesF l)) := ⟨H1.out.1.below hb2, H1.out.2.2.trans (hb2.mono H1.out.2.2.size), hv.lower H1.out.2.2.size⟩
      clear hv hb2 H1 K2
      go_wp2_with fail
      refine (rd_new _ _).mono ?_
      rintro e w3 ⟨rfl, h3, f3⟩
      have H3 : Aside0 (Tr w3 w.heap.size tb l ∧ Below w.heap.size w w3 ∧ Row w3 w.heap.size 3 .i64 v (codesF l) ∧ RdAt w3 w2.heap.size s 0 ∧ w.heap.size ≤ w2.heap.size) := ⟨H2.out.1.below f3, H2.out.2.1.trans (f3.mono H2.out.2.1.size), H2.out.2.2.below f3, h3, H2.out.2.1.size⟩
      clear h3 f3 H2
      generalize w2.heap.size = r at H3 ⊢
      go_wp2_with fail
      refine (bits_calls s _ (by omega)).mono ?_
      rintro e w4 ⟨u, rfl, hu, hb4⟩
      have H4 : Aside0 (RdMid w w4 v u l (flat (bytesOf s)) tb r s 0) := ⟨⟨H3.out.2.2.1.below hb4, hu.lower H3.out.2.1.size, H3.out.1.below hb4, H3.out.2.2.2.1.below hb4, H3.out.2.1.trans (hb4.mono H3.out.2.1.size), H3.out.2.2.2.2⟩⟩
      clear hu hb4 H3
      obtain ⟨A1, c1, rfl, _⟩ := H4.out.cs.reads
      obtain ⟨A2, c2, rfl, _⟩ := H4.out.bits.reads
      have hbl : (flat (bytesOf s)).length = 8 * s.size := by rw [flat_length, bytesOf_length]
      have RR := fun (W : World) (p : Nat) (h : RdMid w W (.slice A1 (codesF l).length c1) (.slice A2 (flat (bytesOf s)).length c2) l (flat (bytesOf s)) tb r s p) => tread_calls W w.heap.size tb r l s p HM.out h.tr h.rd (by omega)
      have RF := fun (W : World) (p q : Nat) (hq : q ≤ 8 * s.size) (h : RdMid w W (.slice A1 (codesF l).length c1) (.slice A2 (flat (bytesOf s)).length c2) l (flat (bytesOf s)) tb r s p) => refread_calls W A A1 A2 c c1 c2 l s q HM.out (HR.out.below h.below) (reads_kdC (Row.kdC h.cs).2.2) (reads_kdC (Row.kdC h.bits).2.2) hc (Row.kdC h.cs).2.1 (Row.kdC h.bits).2.1 (by omega) hq
      have RB := fun (p : Nat) (h : p ≤ 8 * s.size) => rdS_le s l p h
      have KRR := Aside0.mk RR
      have KRF := Aside0.mk RF
      have KRB := Aside0.mk RB
      clear RR RF RB
      obtain ⟨bs, hbs⟩ : ∃ bs, bs = flat (bytesOf s) := ⟨_, rfl⟩
      rw [← hbs] at H4 hbl KRR KRF ⊢
      obtain ⟨bn, hbn⟩ : ∃ bn, bn = bs.length := ⟨_, rfl⟩
      rw [← hbn] at hbl H4 KRR KRF ⊢
      have HBL := Aside0.mk hbl
      clear hbs hbl hbn
      go_wp2_with fail
      go_loopw [11, 12] (fun v7 v8 wr => ∃ (i p : Nat), i ≤ 8 * s.size + 1 ∧ p ≤ 8 * s.size ∧ v7 = .int .i64 p ∧ v8 = .int .i64 i ∧ Aside0 (RdMid w wr (.slice A1 (codesF l).length c1) (.slice A2 bn c2) l bs tb r s p)) (fun _ v8 _ => 8 * s.size + 1 - (intOf v8).toNat)
      case atStart => exact ⟨0, 0, by omega, by omega, rfl, rfl, ⟨H4.out⟩⟩
      case round =>
        clear H4
        obtain ⟨i, p, hi, hp, rfl, rfl, HW⟩ := hrel
        by_cases hlt : i ≤ 8 * s.size
        · have q5 : decide ((i : Int) ≤ (bn : Int)) = true := decide_eq_true (by have := HBL.out; omega)
          have q5n : decide (i ≤ bn) = true := decide_eq_true (by have := HBL.out; omega)
          have h6 := KRR.out _ _ HW.out
          have h7 := fun (W : World) (q : Nat) (h : RdMid w W (.slice A1 (codesF l).length c1) (.slice A2 bn c2) l bs tb r s q) => KRF.out W q p hp h
          have h8 := KRB.out p hp
          obtain ⟨res, hres⟩ : ∃ res, res = rdS s l p := ⟨_, rfl⟩
          rw [← hres] at h6 h8
          simp only [← hres] at h7
          obtain ⟨n, g, q⟩ := res
          dsimp only at h6 h7 h8
          have K6 := Aside0.mk h6
          have K7 := Aside0.mk h7
          clear h6 h7 hres
          have e1 : (n != n) = false := by simp
          have e2 : (g != g) = false := by simp
          have e3 : ((q : Int) != (q : Int)) = false := by simp
          have e3n : (q != q) = false := by simp
          go_wp2_with fail
          refine K6.out.mono ?_
          rintro e w5 ⟨rfl, h5, f5⟩
          have H5 := Aside0.mk (HW.out.read h5 f5)
          clear h5 f5 HW K6
          go_wp2_with fail
          refine (K7.out _ _ H5.out).mono ?_
          rintro e w6 ⟨rfl, hb6⟩
          have H6 := Aside0.mk (H5.out.below_ hb6)
          clear hb6 H5 K7
          go_wp2_with fail
          refine (rd_at _ r s q H6.out.rd (by omega)).mono ?_
          rintro e w7 ⟨rfl, hd7⟩
          have H7 := Aside0.mk (H6.out.drawn hd7)
          clear hd7 H6
          by_cases hg : g = 0
          · have e4 : (g != 0) = false := by simpa using hg
            clear hg
            go_wp2_with fail
            go_roundw
            case rel => exact ⟨i + 1, q, by omega, h8, rfl, by go_num, H7⟩
            case measure => simp [intOf]; omega
          · have e4 : (g != 0) = true := by simpa using hg
            clear hg
            go_wp2_with fail
            refine (trees_true _).mono ?_
            rintro e w8 ⟨rfl, hb8⟩
            go_wp2_with fail
            go_returns
            exact ⟨rfl, H7.out.below.trans (hb8.mono H7.out.below.size)⟩
        · have q5 : decide ((i : Int) ≤ (bn : Int)) = false := decide_eq_false (by have := HBL.out; omega)
          have q5n : decide (i ≤ bn) = false := decide_eq_false (by have := HBL.out; omega)
          clear KRR KRF KRB
          go_wp2_with fail
          refine (trees_true _).mono ?_
          rintro e w8 ⟨rfl, hb8⟩
          go_wp2_with fail
          go_returns
          exact ⟨rfl, HW.out.below.trans (hb8.mono HW.out.below.size)⟩
    · have K3 := Aside0.mk (new_bad A c l w hr hc hm0)
      obtain ⟨my, hmy⟩ : ∃ my, my = mayF l := ⟨_, rfl⟩
      rw [← hmy] at K3 hm0
      simp only [← hmy] at HC2
      have K2 := Aside0.mk HC2
      have e4 : (my == 0) = false := beq_eq_false_iff_ne.2 hm0
      have e5 : (my != 0) = true := by simpa using hm0
      have e6 : (my == my) = true := beq_self_eq_true _
      have e7 : (my != my) = false := by simp
      clear HC2 HC3 hm0 hr hm h1 hmy
      go_enter Try.func8, Try.ntmps8
      go_wp2_with fail
      refine K3.out.mono ?_
      rintro e w1 ⟨rfl, hb1⟩
      have H1 : Aside0 (ReadsInt w1 .i64 A l.length l ∧ Below w.heap.size w w1) := ⟨HR.out.below hb1, hb1⟩
      clear hb1 K3 HR
      go_wp2_with fail
      refine (K2.out _ H1.out.1).mono ?_
      rintro e w2 ⟨v, rfl, hv, hb2⟩
      have H2 : Aside0 (Below w.heap.size w w2) := ⟨H1.out.2.trans (hb2.mono H1.out.2.size)⟩
      clear hv hb2 H1 K2
      go_wp2_with fail
      refine (rd_new _ _).mono ?_
      rintro e w3 ⟨rfl, h3, f3⟩
      have H3 : Aside0 (Below w.heap.size w w3) := ⟨H2.out.trans (f3.mono H2.out.size)⟩
      clear h3 f3 H2
      go_wp2_with fail
      refine (trees_true _).mono ?_
      rintro e w8 ⟨rfl, hb8⟩
      go_wp2_with fail
      go_returns
      exact ⟨rfl, H3.out.trans (hb8.mono H3.out.size)⟩
theorem codesReads_walk (a0 : Option Addr) (len0 cap0 : Nat) (z0 : List Int) (a1 : ByteArray) (w : World) (w0 : (a0 = none ∧ len0 = 0 ∧ cap0 = 0 ∧ z0 = []) ∨ ∃ x, a0 = some x ∧ len0 ≤ cap0 ∧ cap0 ≤ maxLen ∧ z0.length = cap0 ∧ (∀ i, i < z0.length → w.cell? (x.add i) = some (.int .i64 (z0.getD i 0))) ∧ ∀ n ∈ z0, (Lit.int .i64 n).wf = true) (y0 : len0 * 8 ≤ 140737488351232) (w1 : a1.size ≤ 140737488351232) :
    Calls Try.prog 8 #[.slice a0 len0 cap0, .string a1] w fun e w' => e = .returned (.bool true) ∧ Below w.heap.size w w' := by
  obtain ⟨l0, rfl, hr0, hm0, hw0, hc0⟩ := ReadsInt.ofRowC w0
  exact codesReads_core a0 cap0 l0 a1 w hr0 hc0 hm0
end Go.Proofs.Ytcphjcggnblnkaa.Hand
