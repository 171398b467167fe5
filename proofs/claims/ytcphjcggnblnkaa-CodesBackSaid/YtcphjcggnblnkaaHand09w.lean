/- Codes: a symbol is written; walked by hand. -/
import Derived.Test.YtcphjcggnblnkaaHand09e
import Derived.Test.YtcphjcggnblnkaaHand08p
import Derived.Handy
namespace Go.Proofs.Ytcphjcggnblnkaa.Hand
open Go.RowKit Go.Proofs.YtcphjcggnblnkaaW.PrintWords Go.Proofs.YtcphjcggnblnkaaW.PrintLast Go.Proofs.YtcphjcggnblnkaaW.PrintMore Go.Proofs.Ytcphjcggnblnkaa.Num Go.Proofs.Ytcphjcggnblnkaa.Bits
set_option linter.unusedVariables false
set_option linter.unusedSimpArgs false
/-- A tree of codes in memory. -/
structure TreeAt (w : World) (B tb : Nat) (ls cs many syms : List Int) (lg : Int) : Prop where
  open_ : ∃ vl vc vs, w.heap[tb]? = some (.cells (vl :: vc :: (nums .i64 many ++ [vs, .int .i64 lg])).toArray 85 (0, 0)) ∧ Row w B 3 .i64 vl ls ∧ Row w B 3 .i64 vc cs ∧ Row w B 3 .i64 vs syms
  ml : many.length = 16
/-- The bits of a code, the highest ahead. -/
def revB (c : Int) : Nat → List Int
  | 0 => []
  | n + 1 => (c / 2 ^ n % 2) :: revB c n
set_option maxRecDepth 100000 in
set_option maxHeartbeats 4000000 in
theorem write_none (w : World) (B tb g : Nat) (ls cs many syms : List Int) (lg k : Int) (hT : TreeAt w B tb ls cs many syms lg) (hk : k < 0 ∨ ls.length ≤ k ∨ (0 ≤ k ∧ k < ls.length ∧ ls.getD k.toNat 0 = 0)) :
    Calls Try.prog 37 #[.pointer (some ⟨tb, 0, none⟩), .pointer (some ⟨g, 0, none⟩), .int .i64 k] w fun e w' => e = .returned (.int .i64 12) ∧ Drawn0 w w' := by
  obtain ⟨vl, vc, vs, hb, h1, h2, h3⟩ := hT.open_
  obtain ⟨A1, n1, k1, hv1, hn1⟩ := h1.shape
  subst hv1
  obtain rfl := hn1.out
  have c0 : w.cell? ⟨tb, 0, none⟩ = some (.slice A1 ls.length k1) := blk_cell hb 0
  have H1 := Aside0.mk h1
  clear hb h2 h3 hT hn1 h1
  by_cases hneg : k < 0
  · have q1 : decide (k < 0) = true := decide_eq_true hneg
    clear hk H1
    go_enter Try.func37, Try.ntmps37
    go_wp2_with fail
    go_returns
    exact ⟨rfl, ⟨⟨0, rfl⟩⟩⟩
  · have q1 : decide (k < 0) = false := decide_eq_false hneg
    by_cases hbig : (ls.length : Int) ≤ k
    · have q2 : decide ((ls.length : Int) ≤ k) = true := decide_eq_true hbig
      clear hk H1 hneg
      go_enter Try.func37, Try.ntmps37
      go_wp2_with fail
      go_returns
      exact ⟨rfl, ⟨⟨0, rfl⟩⟩⟩
    · obtain ⟨m, rfl⟩ := Int.eq_ofNat_of_zero_le (show 0 ≤ k by omega)
      have q2 : decide ((ls.length : Int) ≤ (m : Int)) = false := decide_eq_false hbig
      have q2n : decide (ls.length ≤ m) = false := decide_eq_false (by omega)
      have hml : m < ls.length := by omega
      have hz : ls.getD m 0 = 0 := by
        rcases hk with h | h | h
        · omega
        · omega
        · simpa using h.2.2
      obtain ⟨A2, c2, he, hrd⟩ := H1.out.reads
      injection he with he1 he2 he3
      subst he1
      obtain ⟨ad, rfl, hcell⟩ := ReadsInt.at_ hrd (m : Int) (by omega) (by omega)
      rw [Int.toNat_natCast, rd, Int.toNat_natCast, hz] at hcell
      clear hk H1 hneg hbig hrd hz
      go_enter Try.func37, Try.ntmps37
      go_wp2_with fail
      go_returns
      exact ⟨rfl, ⟨⟨0, rfl⟩⟩⟩
theorem TreeAt.ne {w : World} {B tb g : Nat} {ls cs many syms : List Int} {lg : Int} {post : List Value} {L : List Int} (hT : TreeAt w B tb ls cs many syms lg) (hW : WrAt w B g 28 post L) : ¬ SU B g w tb := by
  obtain ⟨vl, vc, vs, hb, _⟩ := hT.open_
  obtain ⟨x, m, u, xs, q1, _⟩ := hW.open_
  rintro (rfl | ⟨_, c2, fr, h2⟩)
  · rw [hb] at q1; injection q1 with q1; injection q1 with _ q1; exact absurd q1 (by decide)
  · rw [hb] at h2; injection h2 with h2; injection h2 with _ h2; exact absurd h2 (by decide)
theorem row_su {w : World} {B g : Nat} {v : Value} {xs : List Int} {post : List Value} {L : List Int} (h : Row w B 3 .i64 v xs) (hW : WrAt w B g 28 post L) : ∀ j, v.ownBlock = some j → ¬ SU B g w j := by
  obtain ⟨x, m, u, ys, q1, _⟩ := hW.open_
  intro j hj hs
  rcases hs with rfl | ⟨_, c2, fr, h2⟩
  · exact h.ne_blk q1 (by decide) j hj rfl
  · exact h.ne_blk h2 (by decide) j hj rfl
theorem and_one {x : Int} (h0 : 0 ≤ x) (h : x < 2 ^ 62) : bits .and .i64 x 1 = x % 2 := by
  have := and_mask (k := 1) h0 h (by omega)
  simpa using this
/-- A tree outlasts what a writer does. -/
theorem TreeAt.fr {w w1 : World} {B tb g : Nat} {ls cs many syms : List Int} {lg : Int} {post : List Value} {L : List Int} (hT : TreeAt w B tb ls cs many syms lg) (hW : WrAt w B g 28 post L) (hf : Fr w w1 (SU B g w)) : TreeAt w1 B tb ls cs many syms lg := by
  have hne := hT.ne hW
  obtain ⟨⟨vl, vc, vs, hb, h1, h2, h3⟩, hm⟩ := hT
  exact ⟨⟨vl, vc, vs, hf.blk hb hne, h1.fr hf (row_su h1 hW), h2.fr hf (row_su h2 hW), h3.fr hf (row_su h3 hW)⟩, hm⟩
set_option maxRecDepth 100000 in
set_option maxHeartbeats 4000000 in
theorem write_ok (w : World) (B tb g : Nat) (ls cs many syms : List Int) (lg : Int) (m n : Nat) (L : List Int) (hT : TreeAt w B tb ls cs many syms lg) (hW : WrAt w B g 28 [] L) (hB : B ≤ w.heap.size)
    (hm : m < ls.length) (hmc : m < cs.length) (hn : ls.getD m 0 = (n : Int)) (hn0 : n ≠ 0) (hn15 : n ≤ 15) (hc0 : 0 ≤ cs.getD m 0) (hc1 : cs.getD m 0 ≤ 40000000) (hL : L.length ≤ 10000000) :
    Calls Try.prog 37 #[.pointer (some ⟨tb, 0, none⟩), .pointer (some ⟨g, 0, none⟩), .int .i64 (m : Int)] w fun e w' => e = .returned (.int .i64 0) ∧ WrAt w' B g 28 [] (L ++ revB (cs.getD m 0) n) ∧ Fr w w' (SU B g w) := by
  have q2 : decide ((ls.length : Int) ≤ (m : Int)) = false := decide_eq_false (by omega)
  have q2n : decide (ls.length ≤ m) = false := decide_eq_false (by omega)
  have hT0 := hT
  obtain ⟨vl, vc, vs, hb, h1, h2, h3⟩ := hT0.open_
  obtain ⟨A1, k1, rfl, hrd1⟩ := h1.reads
  obtain ⟨A2, k2, rfl, hrd2⟩ := h2.reads
  obtain ⟨ad, rfl, hcell⟩ := ReadsInt.at_ hrd1 (m : Int) (by omega) (by omega)
  rw [Int.toNat_natCast, rd, Int.toNat_natCast, hn] at hcell
  obtain ⟨ac, rfl, hcell2⟩ := ReadsInt.at_ hrd2 (m : Int) (by omega) (by omega)
  rw [Int.toNat_natCast, rd, Int.toNat_natCast] at hcell2
  obtain ⟨cc, hcc⟩ : ∃ cc, cc = cs.getD m 0 := ⟨_, rfl⟩
  rw [← hcc] at hcell2 hc0 hc1 ⊢
  have c0 : w.cell? ⟨tb, 0, none⟩ = some (.slice (some ad) ls.length k1) := blk_cell hb 0
  have c1 : w.cell? ⟨tb, 1, none⟩ = some (.slice (some ac) cs.length k2) := blk_cell hb 1
  have hz : ((n : Int) == 0) = false := beq_eq_false_iff_ne.2 (by omega)
  have HK : Aside0 (∀ W, Fr w W (SU B g w) → W.cell? ⟨tb, 1, none⟩ = some (.slice (some ac) cs.length k2) ∧ W.cell? (ac.add m) = some (.int .i64 cc)) := ⟨fun W hf => ⟨hf.cell c1 (hT.ne hW), hf.cell hcell2 (fun hs => row_su h2 hW _ (by rfl) (by rwa [show (ac.add m).block = ac.block by unfold Addr.add; split <;> rfl] at hs))⟩⟩
  have HW := Aside0.mk hW
  have HL : Aside0 (_ ∧ _) := ⟨hL, hB⟩
  clear hT hT0 hW hb h1 h2 h3 hrd1 hrd2 hn hL hB hcc c1 hcell2
  go_enter Try.func37, Try.ntmps37
  go_wp2_with fail
  go_loopw [7] (fun v7 wr => ∃ (i : Nat) (Lw : List Int), i ≤ n ∧ v7 = .int .i64 ((i : Int) - 1) ∧ Lw.length ≤ 10000000 + 16 ∧ Aside0 (WrAt wr B g 28 [] Lw ∧ Lw ++ revB cc i = L ++ revB cc n ∧ Fr w wr (SU B g w))) (fun v7 _ => (intOf v7 + 1).toNat)
  case atStart => exact ⟨n, L, by omega, rfl, by have := HL.out.1; omega, HW.out, rfl, Fr.refl _ _⟩
  case round =>
    obtain ⟨i, Lw, hi, rfl, hLw, HR⟩ := hrel
    by_cases hlt : 0 < i
    · obtain ⟨j, hj⟩ : ∃ j, i = j + 1 := ⟨i - 1, by omega⟩
      have hij : (i : Int) - 1 = (j : Int) := by omega
      obtain ⟨d1, d2⟩ := HK.out wr HR.out.2.2
      have hx0 : 0 ≤ cc / 2 ^ j := Int.ediv_nonneg hc0 (Int.le_of_lt (pow_pos' j))
      have hx1 : cc / 2 ^ j ≤ cc := Int.ediv_le_self _ hc0
      have hand := and_one hx0 (by omega)
      have q5 : decide (0 ≤ (j : Int)) = true := decide_eq_true (by omega)
      have hb2 := Int.emod_nonneg (cc / 2 ^ j) (show (2 : Int) ≠ 0 by decide)
      have hb3 := Int.emod_lt_of_pos (cc / 2 ^ j) (show (0 : Int) < 2 by decide)
      have HP := wr_put wr B g 28 [] Lw (cc / 2 ^ j % 2) 1 HR.out.1 (by decide) hb2 (by simpa using hb3) (by omega) (by omega) (Nat.le_trans HL.out.2 HR.out.2.2.size)
      rw [show ((1 : Nat) : Int) = 1 from rfl] at HP
      have HPP := Aside0.mk HP
      have hlen : Lw.length ≤ L.length + n := by
        have h := congrArg List.length HR.out.2.1
        have hr : ∀ q, (revB cc q).length = q := fun q => by induction q with
          | zero => rfl
          | succ q ih => rw [revB, List.length_cons, ih]
        rw [List.length_append, List.length_append, hr, hr] at h
        omega
      have hlen2 : Lw.length + i = L.length + n := by
        have h := congrArg List.length HR.out.2.1
        have hr : ∀ q, (revB cc q).length = q := fun q => by induction q with
          | zero => rfl
          | succ q ih => rw [revB, List.length_cons, ih]
        rw [List.length_append, List.length_append, hr, hr] at h
        omega
      have HLL := Aside0.mk hlen2
      clear c0 hcell HP hx0 hx1 hb2 hb3 hlen hlen2
      go_wp2_with fail
      refine HPP.out.mono ?_
      rintro e w2 ⟨rfl, hw2, hf2⟩
      have H2 : Aside0 (_ ∧ _) := ⟨hw2, HR.out.2.2.su hf2⟩
      clear hw2 hf2
      go_wp2_with fail
      go_roundw
      case rel =>
        refine ⟨j, Lw ++ bitsN (cc / 2 ^ j % 2) 1, by omega, by go_num, ?_, H2.out.1, ?_, H2.out.2⟩
        · have := HLL.out; have := HL.out.1; rw [List.length_append, bitsN_length]; omega
        · have h := HR.out.2.1
          rw [hj, revB] at h
          rw [← h, List.append_assoc]
          congr 1
          show (cc / 2 ^ j % 2 % 2) :: revB cc j = _
          rw [Int.emod_emod_of_dvd _ (Int.dvd_refl 2)]
      case measure => simp [intOf]; omega
    · obtain rfl : i = 0 := by omega
      have q5 : decide (0 ≤ ((0 : Nat) : Int) - 1) = false := by decide
      go_wp2_with fail
      go_returns
      have h := HR.out.2.1
      rw [revB, List.append_nil] at h
      exact ⟨rfl, by rw [← h]; exact HR.out.1, HR.out.2.2⟩
theorem write_nil1 (w : World) (p : Option Addr) (k : Int) :
    Calls Try.prog 37 #[.pointer none, .pointer p, .int .i64 k] w fun e w' => e = .returned (.int .i64 1) ∧ w = w' := by
  go_enter Try.func37, Try.ntmps37
  go_wp2_with fail
  go_returns
  exact ⟨rfl, rfl⟩
theorem write_nil2 (w : World) (a : Addr) (k : Int) :
    Calls Try.prog 37 #[.pointer (some a), .pointer none, .int .i64 k] w fun e w' => e = .returned (.int .i64 1) ∧ w = w' := by
  go_enter Try.func37, Try.ntmps37
  go_wp2_with fail
  go_returns
  exact ⟨rfl, rfl⟩
end Go.Proofs.Ytcphjcggnblnkaa.Hand
