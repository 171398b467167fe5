/- The contracts of bitrow.Reader and bitrow.Writer of the given program: bits one behind the other. The contracts of bitrow.Writer: what is put stands behind what was put. Layer 8: what the document's own functions tell, and the reader's contract at any question. The document's own Put of layer 8: it may hand its row back, so it is walked by hand. -/
import Derived.Test.YtghoifkaikddlaaGreatBits
import Derived.Handy
import Derived.Test.YtghoifkaikddlaaGreatP08x0
namespace Go.Proofs.YtghoifkaikddlaaGreat.Hand
open Go.RowKit Go.Proofs.YtghoifkaikddlaaGreatW.PrintWords Go.Proofs.YtghoifkaikddlaaGreatW.PrintLast Go.Proofs.YtghoifkaikddlaaGreatW.PrintMore Go.Proofs.YtghoifkaikddlaaGreat.Num Go.Proofs.YtghoifkaikddlaaGreat.Bits
set_option linter.unusedVariables false
set_option linter.unusedSimpArgs false
theorem wrap62 {x : Int} (h0 : 0 ≤ x) (h1 : x < 2 ^ 62) : IntKind.i64.wrap x = x := IntWalk.i64_in _ (by omega)
theorem pow_le {a b : Nat} (h : a ≤ b) : (2 : Int) ^ a ≤ 2 ^ b := pow_le2 h
theorem pow_pos' (a : Nat) : (0 : Int) < 2 ^ a := Int.pow_pos (by decide)
theorem mul_pow_lt {x : Int} {a b : Nat} (h0 : 0 ≤ x) (h : x < 2 ^ a) : x * 2 ^ b < 2 ^ (a + b) := by
  rw [Int.pow_add]; exact Int.mul_lt_mul_of_pos_right h (pow_pos' b)
theorem or_shift {x n : Int} {m k : Nat} (hx0 : 0 ≤ x) (hx : x < 2 ^ m) (hn0 : 0 ≤ n) (hn : n < 2 ^ k) (hmk : m + k ≤ 62) : bits .or .i64 x (n * 2 ^ m) = x + n * 2 ^ m := by
  have h1 := mul_pow_lt (b := m) hn0 hn
  have h2 := pow_le (show k + m ≤ 62 by omega)
  have h3 := pow_le (show m ≤ 62 by omega)
  have h4 : 0 ≤ n * 2 ^ m := Int.mul_nonneg hn0 (Int.le_of_lt (pow_pos' m))
  have hz := bits_join .i64 62 (by decide) (fun n h0 h1 => wrap62 h0 h1) m (n * 2 ^ m) x h4 (Int.mul_emod_left _ _) (by omega) hx0 hx (by omega)
  obtain ⟨a, ha⟩ := Int.eq_ofNat_of_zero_le hx0
  obtain ⟨b, hb⟩ := Int.eq_ofNat_of_zero_le h4
  rw [hb] at hz h1 h4 ⊢
  rw [ha] at hz hx ⊢
  have ea : a < 2 ^ 62 := by have : (a : Int) < 2 ^ 62 := by omega
                             exact_mod_cast this
  have eb : b < 2 ^ 62 := by have : (b : Int) < 2 ^ 62 := by omega
                             exact_mod_cast this
  rw [(bits_nat .i64 62 (by decide) (fun n h0 h1 => wrap62 h0 h1) b a eb ea).2] at hz
  rw [(bits_nat .i64 62 (by decide) (fun n h0 h1 => wrap62 h0 h1) a b ea eb).2, Nat.or_comm, hz]
  omega
theorem and_mask {x : Int} {k : Nat} (h0 : 0 ≤ x) (h : x < 2 ^ 62) (hk : k ≤ 62) : bits .and .i64 x (2 ^ k - 1) = x % 2 ^ k := bits_mask .i64 62 (by decide) (fun n h0 h1 => wrap62 h0 h1) k hk x h0 h
def U8 (w : World) (k : Nat) : Prop := ∃ cs fr, w.heap[k]? = some (.cells cs 5 fr)
def SU (B g : Nat) (w : World) (k : Nat) : Prop := k = g ∨ (B ≤ k ∧ U8 w k)
theorem Fr.su {w w1 w2 : World} {B g : Nat} (h : Fr w w1 (SU B g w)) (k : Fr w1 w2 (SU B g w1)) : Fr w w2 (SU B g w) :=
  ⟨k.os.trans h.os, k.tape.trans h.tape, k.output.trans h.output, Nat.le_trans h.size k.size, fun i hi hn => by
    have h1 := h.block i hi hn
    refine (k.block i (Nat.lt_of_lt_of_le hi h.size) ?_).trans h1
    rintro (rfl | ⟨hB, cs, fr, hc⟩)
    · exact hn (.inl rfl)
    · rw [h1] at hc; exact hn (.inr ⟨hB, cs, fr, hc⟩)⟩
theorem Fr.suOf {w w1 : World} {B g : Nat} (h : Fr w w1 (· = g)) : Fr w w1 (SU B g w) := h.mono (fun _ _ h => .inl h)
theorem Fr.suBelow {w w1 : World} {B g : Nat} (h : Fr w w1 (SU B g w)) {C : Nat} (hg : C ≤ g) (hB : C ≤ B) (hC : C ≤ w.heap.size) : Below C w w1 := h.below (by rintro k (rfl | h); exact hg; omega) hC
def rdMany (p : Nat) : Nat := (8 - p % 8) % 8
def rdAt (p : Nat) : Nat := (p + 7) / 8
theorem rd_eq (p : Nat) : 8 * rdAt p = p + rdMany p := by unfold rdAt rdMany; omega
theorem rdMany_lt (p : Nat) : rdMany p < 8 := by unfold rdMany; omega
structure RdAt (w : World) (g : Nat) (s : ByteArray) (p : Nat) : Prop where
  blk : w.heap[g]? = some (.cells #[.int .i64 (val s p (rdMany p)), .int .i64 (rdMany p : Int), .string s, .int .i64 (rdAt p : Int)] 188 (0, 0))
  le : p ≤ 8 * s.size
theorem RdAt.fr {w w' : World} {g : Nat} {s : ByteArray} {p : Nat} {S : Nat → Prop} (h : RdAt w g s p) (hf : Fr w w' S) (hg : ¬ S g) : RdAt w' g s p := ⟨hf.blk h.blk hg, h.le⟩
theorem RdAt.drawn {w w' : World} {g : Nat} {s : ByteArray} {p : Nat} (h : RdAt w g s p) (hd : Drawn0 w w') : RdAt w' g s p := by
  obtain ⟨n, rfl⟩ := hd.out; exact ⟨h.blk, h.le⟩
theorem RdAt.open_ {w : World} {g : Nat} {s : ByteArray} {p : Nat} (h : RdAt w g s p) : ∃ (x : Int) (m a : Nat), w.heap[g]? = some (.cells #[.int .i64 x, .int .i64 (m : Int), .string s, .int .i64 (a : Int)] 188 (0, 0)) ∧ x = val s p m ∧ 8 * a = p + m ∧ m < 8 ∧ p ≤ 8 * s.size :=
  ⟨_, _, _, h.blk, rfl, rd_eq p, rdMany_lt p, h.le⟩
theorem RdAt.shut {w : World} {g : Nat} {s : ByteArray} {p : Nat} {x : Int} {m a : Nat} (hb : w.heap[g]? = some (.cells #[.int .i64 x, .int .i64 (m : Int), .string s, .int .i64 (a : Int)] 188 (0, 0))) (hx : x = val s p m) (ha : 8 * a = p + m) (hm : m < 8) (hp : p ≤ 8 * s.size) : RdAt w g s p := by
  have e1 : m = rdMany p := by unfold rdMany; omega
  have e2 : a = rdAt p := by unfold rdAt; omega
  subst hx e1 e2
  exact ⟨hb, hp⟩
theorem come_calls (w : World) (g : Nat) (t : TypeId) (post : List Value) (x n : Int) (m k : Nat) (hb : w.heap[g]? = some (.cells (.int .i64 x :: .int .i64 (m : Int) :: post).toArray t (0, 0)))
    (hx0 : 0 ≤ x) (hx : x < 2 ^ m) (hn0 : 0 ≤ n) (hn : n < 2 ^ k) (hk : k ≤ 16) (hm : m ≤ 40) :
    Calls Tryz.prog 152 #[.pointer (some ⟨g, 0, none⟩), .int .i64 n, .int .i64 (k : Int)] w fun e w' => e = .returned (.tuple #[]) ∧
      w'.heap[g]? = some (.cells (.int .i64 (x + n * 2 ^ m) :: .int .i64 ((m + k : Nat) : Int) :: post).toArray t (0, 0)) ∧ Fr w w' (· = g) := by
  have c0 : w.cell? ⟨g, 0, none⟩ = some (.int .i64 x) := (blk_cell hb 0).trans (by simp)
  have c1 : w.cell? ⟨g, 1, none⟩ = some (.int .i64 (m : Int)) := (blk_cell hb 1).trans (by simp)
  have f0 := blk_frozen hb 0
  have f1 := blk_frozen hb 1
  have h1 := mul_pow_lt (b := m) hn0 hn
  have h2 := pow_le (show k + m ≤ 62 by omega)
  have h4 : 0 ≤ n * 2 ^ m := Int.mul_nonneg hn0 (Int.le_of_lt (pow_pos' m))
  have q1 : wrap64 (n * 2 ^ m) = n * 2 ^ m := w64 (by omega) (by omega)
  have q2 := or_shift hx0 hx hn0 hn (show m + k ≤ 62 by omega)
  have HF : Aside0 (∀ u v, Fr w (((w.setCell ⟨g, 0, none⟩ u).setCell ⟨g, 1, none⟩ v).drew) (· = g)) := ⟨fun u v => (((Fr.refl w _).set1 0 u).set1 1 v).drew⟩
  clear hx hn h1 h2 h4
  go_enter Tryz.func152, Tryz.ntmps152
  go_wp2
  go_region
  all_goals go_wp2
  all_goals go_end0
  all_goals
    refine ⟨rfl, ?_, HF.out _ _⟩
    exact (blk_set (blk_set hb 0 _) 1 _).trans (by simp)
theorem come8_calls (w : World) (g : Nat) (t : TypeId) (post : List Value) (x n : Int) (m : Nat) (hb : w.heap[g]? = some (.cells (.int .i64 x :: .int .i64 (m : Int) :: post).toArray t (0, 0)))
    (hx0 : 0 ≤ x) (hx : x < 2 ^ m) (hn0 : 0 ≤ n) (hn : n < 2 ^ 8) (hm : m ≤ 40) :
    Calls Tryz.prog 152 #[.pointer (some ⟨g, 0, none⟩), .int .i64 n, .int .i64 8] w fun e w' => e = .returned (.tuple #[]) ∧
      w'.heap[g]? = some (.cells (.int .i64 (x + n * 2 ^ m) :: .int .i64 ((m + 8 : Nat) : Int) :: post).toArray t (0, 0)) ∧ Fr w w' (· = g) := come_calls w g t post x n m 8 hb hx0 hx hn0 hn (by omega) hm
theorem take_calls (w : World) (g : Nat) (t : TypeId) (post : List Value) (x : Int) (m k : Nat) (hb : w.heap[g]? = some (.cells (.int .i64 x :: .int .i64 (m : Int) :: post).toArray t (0, 0)))
    (hx0 : 0 ≤ x) (hx : x < 2 ^ 62) (hk : k ≤ 16) (hm : k ≤ m) (hm2 : m ≤ 60) :
    Calls Tryz.prog 153 #[.pointer (some ⟨g, 0, none⟩), .int .i64 (k : Int)] w fun e w' => e = .returned (.int .i64 (x % 2 ^ k)) ∧
      w'.heap[g]? = some (.cells (.int .i64 (x / 2 ^ k) :: .int .i64 ((m - k : Nat) : Int) :: post).toArray t (0, 0)) ∧ Fr w w' (· = g) := by
  have c0 : w.cell? ⟨g, 0, none⟩ = some (.int .i64 x) := (blk_cell hb 0).trans (by simp)
  have c1 : w.cell? ⟨g, 1, none⟩ = some (.int .i64 (m : Int)) := (blk_cell hb 1).trans (by simp)
  have f0 := blk_frozen hb 0
  have f1 := blk_frozen hb 1
  have hp := pow_le (show k ≤ 16 by omega)
  have hp0 := pow_pos' k
  have q0 : bits .and .i64 x (wrap64 (wrap64 (2 ^ k) - 1)) = x % 2 ^ k := by
    rw [w64 (x := 2 ^ k) (by omega) (by omega), w64 (x := 2 ^ k - 1) (by omega) (by omega)]
    exact and_mask hx0 hx (by omega)
  have Q0 := Aside0.mk q0
  clear q0 hp hp0
  have HF : Aside0 (∀ nq u v, Fr w ((((w.drewN nq).setCell ⟨g, 0, none⟩ u).setCell ⟨g, 1, none⟩ v)) (· = g)) := ⟨fun nq u v => ((((Fr.refl w _).drewN nq).set1 0 u).set1 1 v)⟩
  have HB := Aside0.mk hb
  clear hb
  go_enter Tryz.func153, Tryz.ntmps153
  go_wp2
  go_quiet (fail)
  go_wp2
  go_ret
  rw [Q0.out]
  refine ⟨rfl, ?_, HF.out _ _ _⟩
  have e : ((m - k : Nat) : Int) = (m : Int) - (k : Int) := by omega
  rw [e]
  exact (blk_set (blk_set (blk_drewN HB.out nq) 0 _) 1 _).trans (by simp)
theorem fits_calls (k : Int) (w : World) : Calls Tryz.prog 151 #[.int .i64 k] w fun e w' => e = .returned (.bool (decide (0 ≤ k) && decide (k ≤ 16))) ∧ w = w' := by
  by_cases h : 0 ≤ k
  · have q1 : decide (0 ≤ k) = true := decide_eq_true h
    go_enter Tryz.func151, Tryz.ntmps151
    go_wp2
    go_ret
    rw [q1]
    exact ⟨rfl, rfl⟩
  · have q1 : decide (0 ≤ k) = false := decide_eq_false h
    go_enter Tryz.func151, Tryz.ntmps151
    go_wp2
    go_ret
    exact ⟨rfl, rfl⟩
theorem rd_new (s : ByteArray) (w : World) : Calls Tryz.prog 140 #[.string s] w fun e w' => e = .returned (.pointer (some ⟨w.heap.size, 0, none⟩)) ∧ RdAt w' w.heap.size s 0 ∧ Below w.heap.size w w' := by
  go_enter Tryz.func140, Tryz.ntmps140
  go_wp2
  go_ret
  exact ⟨rfl, RdAt.shut (x := 0) (m := 0) (a := 0) (blk_new w _) rfl rfl (by omega) (by omega), below_alloc (Below.refl _ _) _⟩
theorem rd_at (w : World) (g : Nat) (s : ByteArray) (p : Nat) (h : RdAt w g s p) (hs : s.size ≤ 10000000) : Calls Tryz.prog 142 #[.pointer (some ⟨g, 0, none⟩)] w fun e w' => e = .returned (.int .i64 p) ∧ Drawn0 w w' := by
  obtain ⟨x, m, a, hb, hx, ha, hm, hp⟩ := h.open_
  have c1 : w.cell? ⟨g, 1, none⟩ = some (.int .i64 (m : Int)) := blk_cell hb 1
  have c3 : w.cell? ⟨g, 3, none⟩ = some (.int .i64 (a : Int)) := blk_cell hb 3
  have HA := Aside0.mk ha
  have ha2 : a ≤ 20000000 := by omega
  clear ha hb hx
  go_enter Tryz.func142, Tryz.ntmps142
  go_wp2
  go_quiet (fail)
  go_wp2
  go_ret
  have e : (8 * (a : Int) - (m : Int)) = (p : Int) := by have := HA.out; omega
  rw [e]
  exact ⟨rfl, ⟨_, rfl⟩⟩
theorem rd_align (w : World) (g : Nat) (s : ByteArray) (p : Nat) (h : RdAt w g s p) (hs : s.size ≤ 10000000) : Calls Tryz.prog 170 #[.pointer (some ⟨g, 0, none⟩)] w fun e w' => e = .returned (.tuple #[]) ∧ RdAt w' g s (8 * rdAt p) ∧ Fr w w' (· = g) := by
  obtain ⟨x, m, a, hb, hx, ha, hm, hp⟩ := h.open_
  have c1 : w.cell? ⟨g, 1, none⟩ = some (.int .i64 (m : Int)) := blk_cell hb 1
  have hv := val_range s p m
  rw [← hx] at hv
  have hx2 := pow_le (show m ≤ 62 by omega)
  have hxl : x < 2 ^ 62 := by omega
  have q1 : (m : Int).tmod 8 = (m : Int) := (tm _ (by omega)).trans (by omega)
  have HX : Aside0 (_ ∧ _ ∧ _ ∧ _ ∧ _) := ⟨hb, hv.1, hxl, hx, ha⟩
  clear hb hx ha hv hx2 hxl
  go_enter Tryz.func170, Tryz.ntmps170
  go_wp2_with fail
  go_region_with (go_at_call 153; (with_reducible refine (take_calls _ g 188 [.string s, .int .i64 (a : Int)] x m m (blk_drew HX.out.1) HX.out.2.1 HX.out.2.2.1 (by omega) (Nat.le_refl _) (by omega)).mono ?_); rintro e w' ⟨rfl, hb', hf'⟩)
  all_goals go_wp2
  all_goals go_end0
  all_goals
    obtain ⟨hb, h0, h1, hx, ha⟩ := HX.out
    have hv := val_range s p m
    rw [← hx] at hv
    have ez : x / 2 ^ m = 0 := Int.ediv_eq_zero_of_lt hv.1 hv.2
    rw [ez, Nat.sub_self] at hb'
    exact ⟨rfl, RdAt.shut hb' rfl (by unfold rdAt; omega) (by omega) (by unfold rdAt; omega), hf'.of_drew⟩
set_option maxHeartbeats 2000000 in
theorem rd_get (w : World) (g : Nat) (s : ByteArray) (p k : Nat) (h : RdAt w g s p) (hs : s.size ≤ 10000000) (hk : k ≤ 16) (hpk : p + k ≤ 8 * s.size) :
    Calls Tryz.prog 162 #[.pointer (some ⟨g, 0, none⟩), .int .i64 (k : Int)] w fun e w' => e = .returned (.tuple #[.int .i64 (val s p k), .int .i64 0]) ∧ RdAt w' g s (p + k) ∧ Fr w w' (· = g) := by
  obtain ⟨x, m, a, hb, hx, ha, hm, hp⟩ := h.open_
  have c1 : w.cell? ⟨g, 1, none⟩ = some (.int .i64 (m : Int)) := blk_cell hb 1
  have c2 : w.cell? ⟨g, 2, none⟩ = some (.string s) := blk_cell hb 2
  have c3 : w.cell? ⟨g, 3, none⟩ = some (.int .i64 (a : Int)) := blk_cell hb 3
  have q0 : decide (0 ≤ (k : Int)) = true := decide_eq_true (by omega)
  have q1 : decide ((k : Int) ≤ 16) = true := decide_eq_true (by omega)
  have q2 : decide (8 * ((s.size : Int) - (a : Int)) < (k : Int) - (m : Int)) = false := decide_eq_false (by omega)
  have hal : a ≤ s.size := by omega
  have HB := Aside0.mk (⟨hb, hx, ha⟩ : _ ∧ _ ∧ _)
  clear hb hx ha
  go_enter Tryz.func162, Tryz.ntmps162
  go_wp2_with (go_at_call 151; (with_reducible refine (fits_calls _ _).mono ?_); rintro e w' ⟨rfl, rfl⟩)
  go_quiet (fail)
  go_wp2
  go_loopg [33] (k + 1) (fun kq v33 wr => ∃ (x1 : Int) (m1 a1 : Nat), m1 ≤ 23 ∧ Aside0 (wr.heap[g]? = some (.cells #[.int .i64 x1, .int .i64 (m1 : Int), .string s, .int .i64 (a1 : Int)] 188 (0, 0))) ∧ Aside0 (x1 = val s p m1 ∧ 8 * a1 = p + m1) ∧ Aside0 (k ≤ m1 + kq) ∧ Aside0 (m1 < k + 8 ∨ m1 < 8) ∧ Aside0 (Fr w wr (· = g)))
  case atStart => exact ⟨x, m, a, by omega, ⟨blk_drewN HB.out.1 _⟩, ⟨HB.out.2⟩, ⟨by omega⟩, ⟨by omega⟩, ⟨(Fr.refl _ _).drewN _⟩⟩
  case round =>
    clear HB c1 c2 c3 hal q2
    obtain ⟨x1, m1, a1, hm23, HB, HX, HK, HM, HF⟩ := hrel
    have c1 : wr.cell? ⟨g, 1, none⟩ = some (.int .i64 (m1 : Int)) := blk_cell HB.out 1
    have c2 : wr.cell? ⟨g, 2, none⟩ = some (.string s) := blk_cell HB.out 2
    have c3 : wr.cell? ⟨g, 3, none⟩ = some (.int .i64 (a1 : Int)) := blk_cell HB.out 3
    have hv := val_range s p m1
    rw [← HX.out.1] at hv
    by_cases hlt : m1 < k
    · cases gk with
      | zero => exact absurd HK.out (by omega)
      | succ k1 =>
        have hlt2 : decide ((m1 : Int) < (k : Int)) = true := decide_eq_true (by omega)
        have hlt3 : decide (m1 < k) = true := decide_eq_true hlt
        have hal : a1 < s.size := by have := HX.out.2; omega
        have hby := bt_range s (a1 : Int)
        have hbt : (s[a1].toNat : Int) = bt s (a1 : Int) := (bt_nat s a1 hal).symm
        have HV : Aside0 (_ ∧ _ ∧ _) := ⟨hv, hby, bt_nat s a1 hal⟩
        obtain ⟨y, hy⟩ : ∃ y : Int, y = bt s (a1 : Int) := ⟨_, rfl⟩
        rw [← hy] at hbt hby
        have HY := Aside0.mk hy
        have hy0 := hby.1
        have hy1 : y < 2 ^ 8 := by omega
        have HZ : Aside0 (_ ∧ _ ∧ _ ∧ _) := ⟨hv.1, hv.2, hy0, hy1⟩
        have qw : IntKind.i64.wrap y = y := IntWalk.i64_in _ (by omega)
        clear hv hby hy hy0 hy1 HV
        go_wp2
        go_region_with (go_at_call 152; (with_reducible refine (come8_calls _ g 188 [.string s, .int .i64 (a1 : Int)] x1 y m1 (blk_drew HB.out) HZ.out.1 HZ.out.2.1 HZ.out.2.2.1 HZ.out.2.2.2 (by omega)).mono ?_); rintro e w' ⟨rfl, hb', hf'⟩)
        all_goals
          have hx1 : x1 + y * 2 ^ m1 = val s p (m1 + 8) := by
            rw [val_add, ← HX.out.1, show p + m1 = 8 * a1 from HX.out.2.symm, val_byte, ← HY.out, Int.mul_comm]
          rw [hx1] at hb'
          have HB2 : Aside0 (_ ∧ _) := ⟨hb', HF.out.then_ hf'.of_drew⟩
          have d3 : w'.cell? ⟨g, 3, none⟩ = some (.int .i64 (a1 : Int)) := blk_cell hb' 3
          have d4 := blk_frozen hb' 3
          clear hb' hf' hx1 c1 c2 c3 hbt
          go_wp2
          go_roundg k1
          case measure => omega
          case rel =>
            refine ⟨_, m1 + 8, a1 + 1, by have := HM.out; omega, ⟨?_⟩, ⟨rfl, by have := HX.out.2; omega⟩, ⟨by have := HK.out; omega⟩, ⟨by omega⟩, ⟨HB2.out.2.set1 3 _⟩⟩
            exact (blk_set HB2.out.1 3 _).trans (by simp)
    · have hlt2 : decide ((m1 : Int) < (k : Int)) = false := decide_eq_false (by omega)
      have hlt3 : decide (m1 < k) = false := decide_eq_false hlt
      have hp2 := pow_le (show m1 ≤ 62 by omega)
      have hx62 : x1 < 2 ^ 62 := by omega
      have HT := Aside0.mk (take_calls wr g 188 [.string s, .int .i64 (a1 : Int)] x1 m1 k HB.out hv.1 hx62 hk (by omega) (by omega))
      clear hv hp2 hx62
      go_wp2_with (go_at_call 153; (with_reducible refine HT.out.mono ?_); rintro e w' ⟨rfl, hb', hf'⟩)
      repeat (rw [Exit.noGoto_ret])
      go_returns
      have hx := HX.out.1
      have ek : m1 = k + (m1 - k) := by omega
      rw [ek] at hx
      have e1 : x1 % 2 ^ k = val s p k := by rw [hx]; exact val_mod s p k _
      have e2 : x1 / 2 ^ k = val s (p + k) (m1 - k) := by rw [hx]; exact val_div s p k _
      rw [e1]
      refine ⟨rfl, RdAt.shut hb' e2 (by have := HX.out.2; omega) (by have := HM.out; omega) hpk, HF.out.then_ hf'⟩
theorem rd_get_short (w : World) (g : Nat) (s : ByteArray) (p k : Nat) (h : RdAt w g s p) (hs : s.size ≤ 10000000) (hk : k ≤ 16) (hpk : 8 * s.size < p + k) :
    Calls Tryz.prog 162 #[.pointer (some ⟨g, 0, none⟩), .int .i64 (k : Int)] w fun e w' => e = .returned (.tuple #[.int .i64 0, .int .i64 5]) ∧ Drawn0 w w' := by
  obtain ⟨x, m, a, hb, hx, ha, hm, hp⟩ := h.open_
  have c1 : w.cell? ⟨g, 1, none⟩ = some (.int .i64 (m : Int)) := blk_cell hb 1
  have c2 : w.cell? ⟨g, 2, none⟩ = some (.string s) := blk_cell hb 2
  have c3 : w.cell? ⟨g, 3, none⟩ = some (.int .i64 (a : Int)) := blk_cell hb 3
  have q0 : decide (0 ≤ (k : Int)) = true := decide_eq_true (by omega)
  have q1 : decide ((k : Int) ≤ 16) = true := decide_eq_true (by omega)
  have q2 : decide (8 * ((s.size : Int) - (a : Int)) < (k : Int) - (m : Int)) = true := decide_eq_true (by omega)
  have hal : a ≤ s.size := by omega
  clear hb hx ha
  go_enter Tryz.func162, Tryz.ntmps162
  go_wp2_with (go_at_call 151; (with_reducible refine (fits_calls _ _).mono ?_); rintro e w' ⟨rfl, rfl⟩)
  go_quiet (fail)
  go_wp2
  repeat (rw [Exit.noGoto_ret])
  go_returns
  exact ⟨rfl, ⟨_, rfl⟩⟩
set_option maxHeartbeats 1000000 in
theorem rd_bytes (w : World) (g : Nat) (s : ByteArray) (p n : Nat) (h : RdAt w g s p) (hs : s.size ≤ 10000000) (hn : rdAt p + n ≤ s.size) :
    Calls Tryz.prog 171 #[.pointer (some ⟨g, 0, none⟩), .int .i64 (n : Int)] w fun e w' => e = .returned (.tuple #[.string (s.extract (rdAt p) (rdAt p + n)), .int .i64 0]) ∧ RdAt w' g s (8 * (rdAt p + n)) ∧ Fr w w' (· = g) := by
  have hra : rdAt p ≤ s.size := by omega
  obtain ⟨x, m, a, hb, hx, ha, hm, hp⟩ := h.open_
  have c0 : w.cell? ⟨g, 0, none⟩ = some (.int .i64 x) := blk_cell hb 0
  have c1 : w.cell? ⟨g, 1, none⟩ = some (.int .i64 (m : Int)) := blk_cell hb 1
  have c2 : w.cell? ⟨g, 2, none⟩ = some (.string s) := blk_cell hb 2
  have c3 : w.cell? ⟨g, 3, none⟩ = some (.int .i64 (a : Int)) := blk_cell hb 3
  have f0 := blk_frozen hb 0
  have f1 := blk_frozen hb 1
  have f3 := blk_frozen hb 3
  have ea : a = rdAt p := by unfold rdAt; omega
  subst ea
  obtain ⟨a, hae⟩ : ∃ a, a = rdAt p := ⟨_, rfl⟩
  rw [← hae] at hn hra c3 hb ha ⊢
  have q1 : decide ((n : Int) < 0) = false := decide_eq_false (by omega)
  have q2 : (m : Int).tdiv 8 = 0 := (td _ (by omega)).trans (by omega)
  have q3 : decide ((s.size : Int) - (a : Int) < (n : Int)) = false := decide_eq_false (by omega)
  have ksl : ∀ W : World, (Instr.slice 9 (.string s) (some (.int .i64 (a : Int))) (some (.int .i64 ((a : Int) + (n : Int)))) none).run Tryz.prog W = .ok (.string (s.extract a (a + n))) W := slice_str 9 s a (a + n) _ _ Tryz.underlying9 rfl (by omega) (by omega) hn
  have HB := Aside0.mk hb
  clear hb hx ha hae
  go_enter Tryz.func171, Tryz.ntmps171
  go_wp2
  go_quiet (fail)
  go_wp2
  go_quiet (fail)
  go_wp2
  repeat (rw [Exit.noGoto_ret])
  go_returns
  refine ⟨rfl, RdAt.shut (x := 0) (m := 0) (a := a + n) ?_ rfl rfl (by omega) (by omega), ?_⟩
  · have e : ((a + n : Nat) : Int) = (a : Int) + (n : Int) := by omega
    rw [e]
    exact (blk_set (blk_set (blk_set HB.out 0 _) 1 _) 3 _).trans (by simp)
  · exact (((((Fr.refl w (· = g)).drewN _).set1 0 _).set1 1 _).set1 3 _).drewN _
theorem rd_bytes_short (w : World) (g : Nat) (s : ByteArray) (p n : Nat) (h : RdAt w g s p) (hs : s.size ≤ 10000000) (hn : s.size < rdAt p + n) :
    Calls Tryz.prog 171 #[.pointer (some ⟨g, 0, none⟩), .int .i64 (n : Int)] w fun e w' => e = .returned (.tuple #[.string ⟨#[]⟩, .int .i64 5]) ∧ Drawn0 w w' := by
  obtain ⟨x, m, a, hb, hx, ha, hm, hp⟩ := h.open_
  have c1 : w.cell? ⟨g, 1, none⟩ = some (.int .i64 (m : Int)) := blk_cell hb 1
  have c2 : w.cell? ⟨g, 2, none⟩ = some (.string s) := blk_cell hb 2
  have c3 : w.cell? ⟨g, 3, none⟩ = some (.int .i64 (a : Int)) := blk_cell hb 3
  have ea : a = rdAt p := by unfold rdAt; omega
  subst ea
  have hra : rdAt p ≤ s.size := by omega
  obtain ⟨a, hae⟩ : ∃ a, a = rdAt p := ⟨_, rfl⟩
  rw [← hae] at hn hra c3 ha
  have q1 : decide ((n : Int) < 0) = false := decide_eq_false (by omega)
  have q2 : (m : Int).tdiv 8 = 0 := (td _ (by omega)).trans (by omega)
  have q3 : decide ((s.size : Int) - (a : Int) < (n : Int)) = true := decide_eq_true (by omega)
  clear hb hx ha hae
  go_enter Tryz.func171, Tryz.ntmps171
  go_wp2
  go_quiet (fail)
  go_wp2
  repeat (rw [Exit.noGoto_ret])
  go_returns
  exact ⟨rfl, ⟨_, rfl⟩⟩
end Go.Proofs.YtghoifkaikddlaaGreat.Hand
namespace Go.Proofs.YtghoifkaikddlaaGreat.Hand
open Go.RowKit Go.Proofs.YtghoifkaikddlaaGreatW.PrintWords Go.Proofs.YtghoifkaikddlaaGreatW.PrintLast Go.Proofs.YtghoifkaikddlaaGreatW.PrintMore Go.Proofs.YtghoifkaikddlaaGreat.Num Go.Proofs.YtghoifkaikddlaaGreat.Bits
set_option linter.unusedVariables false
set_option linter.unusedSimpArgs false
structure WrAt (w : World) (B g : Nat) (t : TypeId) (post : List Value) (L : List Int) : Prop where
  open_ : ∃ (x : Int) (m : Nat) (v : Value) (xs : List Int), w.heap[g]? = some (.cells (.int .i64 x :: .int .i64 (m : Int) :: v :: post).toArray t (0, 0)) ∧ Row w B 5 .u8 v xs ∧ Held L xs x m
theorem WrAt.drawn {w w' : World} {B g : Nat} {t : TypeId} {post : List Value} {L : List Int} (h : WrAt w B g t post L) (hd : Drawn0 w w') : WrAt w' B g t post L := by
  obtain ⟨n, rfl⟩ := hd.out; exact ⟨h.open_⟩
theorem WrAt.below {w w' : World} {B g : Nat} {t : TypeId} {post : List Value} {L : List Int} (h : WrAt w B g t post L) (hb : Below w.heap.size w w') : WrAt w' B g t post L := by
  obtain ⟨x, m, v, xs, h1, h2, h3⟩ := h.open_
  exact ⟨x, m, v, xs, blk_below h1 hb, h2.below hb, h3⟩
theorem WrAt.fr {w w' : World} {B g : Nat} {t : TypeId} {post : List Value} {L : List Int} {S : Nat → Prop} (h : WrAt w B g t post L) (hf : Fr w w' S) (hg : ¬ S g) (hu : ∀ k, U8 w k → ¬ S k) : WrAt w' B g t post L := by
  obtain ⟨x, m, v, xs, h1, h2, h3⟩ := h.open_
  exact ⟨x, m, v, xs, hf.blk h1 hg, h2.fr hf (fun k hk => hu k (by obtain ⟨cs, hc⟩ := h2.blk k hk; exact ⟨cs, (0, 0), hc⟩)), h3⟩
theorem row_u8 {w : World} {B : Nat} {v : Value} {xs : List Int} (h : Row w B 5 .u8 v xs) : ∀ k, v.ownBlock = some k → U8 w k := fun k hk => by
  obtain ⟨cs, hc⟩ := h.blk k hk; exact ⟨cs, (0, 0), hc⟩
theorem fr_grown {w w' : World} {B g : Nat} {v : Value} {xs : List Int} (h : Row w B 5 .u8 v xs) (hg : w.grownBy w' v.ownBlock) : Fr w w' (SU B g w) :=
  (Fr.of_grown hg).mono (fun k _ hk => .inr ⟨(h.lt k hk).1, row_u8 h k hk⟩)
theorem take8_calls (w : World) (g : Nat) (t : TypeId) (post : List Value) (x : Int) (m : Nat) (hb : w.heap[g]? = some (.cells (.int .i64 x :: .int .i64 (m : Int) :: post).toArray t (0, 0)))
    (hx0 : 0 ≤ x) (hx : x < 2 ^ 62) (hm : 8 ≤ m) (hm2 : m ≤ 60) (y : Int) (hy : y = x % 256) :
    Calls Tryz.prog 153 #[.pointer (some ⟨g, 0, none⟩), .int .i64 8] w fun e w' => e = .returned (.int .i64 y) ∧
      w'.heap[g]? = some (.cells (.int .i64 (x / 256) :: .int .i64 ((m - 8 : Nat) : Int) :: post).toArray t (0, 0)) ∧ Fr w w' (· = g) := by
  subst hy
  exact take_calls w g t post x m 8 hb hx0 hx (by omega) hm hm2
theorem held_out {L xs : List Int} {x : Int} {m : Nat} (h0 : 0 ≤ x) (h8 : 8 ≤ m) (h : L = flat xs ++ bitsN x m) : L = flat (xs ++ [x % 256]) ++ bitsN (x / 256) (m - 8) := by
  rw [h, flat_snoc, List.append_assoc, show (256 : Int) = 2 ^ 8 from rfl, bitsN_mod x h0, ← bitsN_add x h0, show 8 + (m - 8) = m by omega]
set_option maxHeartbeats 2000000 in
set_option maxRecDepth 100000 in
theorem wr_put (w : World) (B g : Nat) (t : TypeId) (post : List Value) (L : List Int) (n : Int) (k : Nat) (h : WrAt w B g t post L) (hne : 5 ≠ t) (hn0 : 0 ≤ n) (hn : n < 2 ^ k) (hk : k ≤ 16) (hL : L.length ≤ 100000000) (hB : B ≤ w.heap.size) :
    Calls Tryz.prog 125 #[.pointer (some ⟨g, 0, none⟩), .int .i64 n, .int .i64 (k : Int)] w fun e w' => e = .returned (.int .i64 0) ∧ WrAt w' B g t post (L ++ bitsN n k) ∧ Fr w w' (SU B g w) := by
  obtain ⟨x, m, v, xs, hb, hr, hh⟩ := h.open_
  have hm := hh.lt
  have hlen := hh.length
  have q0 : decide (0 ≤ (k : Int)) = true := decide_eq_true (by omega)
  have q1 : decide ((k : Int) ≤ 16) = true := decide_eq_true (by omega)
  have q2 : decide (n < 0) = false := decide_eq_false (by omega)
  have q3 : n / 2 ^ k = 0 := Int.ediv_eq_zero_of_lt hn0 hn
  have HC := Aside0.mk (come_calls w g t (v :: post) x n m k hb hh.x0 hh.x1 hn0 hn hk (by omega))
  have hxs : xs.length ≤ 20000000 := by omega
  have HH : Aside0 (_ ∧ _ ∧ _ ∧ _ ∧ _) := ⟨hb, hr, hh, hn0, hn⟩
  clear hb hr hh hlen hn h
  go_enter Tryz.func125, Tryz.ntmps125
  go_wp2_with (first | (go_at_call 151; (with_reducible refine (fits_calls _ _).mono ?_); rintro e w' ⟨rfl, rfl⟩) | (go_at_call 152; (with_reducible refine HC.out.mono ?_); rintro e w1 ⟨rfl, hb1, hf1⟩; have HB1 : Aside0 (_ ∧ _) := ⟨hb1, hf1⟩; clear hb1 hf1 HC))
  go_loopg [29] 24 (fun kq v29 wr => ∃ (x1 : Int) (m1 : Nat) (v1 : Value) (xs1 : List Int), m1 ≤ 23 ∧ Aside0 (wr.heap[g]? = some (.cells (.int .i64 x1 :: .int .i64 (m1 : Int) :: v1 :: post).toArray t (0, 0))) ∧ Aside0 (Row wr B 5 .u8 v1 xs1) ∧
    Aside0 (L ++ bitsN n k = flat xs1 ++ bitsN x1 m1) ∧ Aside0 (0 ≤ x1 ∧ x1 < 2 ^ m1) ∧ Aside0 (∀ y ∈ xs1, 0 ≤ y ∧ y < 256) ∧ Aside0 (xs1.length + m1 ≤ 20000040 ∧ m1 < kq) ∧ Aside0 (Fr w wr (SU B g w)))
  case atStart =>
    have hxn : 0 ≤ x + n * 2 ^ m ∧ x + n * 2 ^ m < 2 ^ (m + k) := by
      have h1 := HH.out.2.2.1.x0
      have h2 := HH.out.2.2.1.x1
      have h3 := Int.mul_nonneg hn0 (Int.le_of_lt (pow_pos' m))
      refine ⟨by omega, ?_⟩
      have h4 : (n + 1) * 2 ^ m ≤ 2 ^ k * 2 ^ m := Int.mul_le_mul_of_nonneg_right (by have := HH.out.2.2.2.2; omega) (Int.le_of_lt (pow_pos' m))
      rw [Int.add_mul, Int.one_mul] at h4
      rw [Int.pow_add, Int.mul_comm (2 ^ m)]
      omega
    refine ⟨_, m + k, v, xs, by omega, ⟨HB1.out.1⟩, ⟨HH.out.2.1.fr HB1.out.2 (fun j hj => HH.out.2.1.ne_blk HH.out.1 hne j hj)⟩, ⟨?_⟩, ⟨hxn⟩, ⟨HH.out.2.2.1.by_⟩, ⟨by omega, by omega⟩, ⟨HB1.out.2.suOf⟩⟩
    rw [bitsN_cat x n m HH.out.2.2.1.x0 HH.out.2.2.1.x1 hn0, HH.out.2.2.1.eq, List.append_assoc]
  case round =>
    clear HB1 q0 q1 q2 q3
    obtain ⟨x1, m1, v1, xs1, hm23, HB, HR, HL, HX, HY, HQ, HF⟩ := hrel
    obtain ⟨A1, n1, k1c, hv1, hn1⟩ := HR.out.shape
    subst hv1
    clear hn1
    have c1 : wr.cell? ⟨g, 1, none⟩ = some (.int .i64 (m1 : Int)) := (blk_cell HB.out 1).trans (by simp)
    have c2 : wr.cell? ⟨g, 2, none⟩ = some (.slice A1 n1 k1c) := (blk_cell HB.out 2).trans (by simp)
    by_cases h8 : 8 ≤ m1
    · have q1 : decide (8 ≤ (m1 : Int)) = true := decide_eq_true (by omega)
      cases gk with
      | zero => exact absurd HQ.out.2 (by omega)
      | succ k1 =>
        have hp := pow_le (show m1 ≤ 62 by omega)
        obtain ⟨y, hy⟩ : ∃ y : Int, y = x1 % 256 := ⟨_, rfl⟩
        have hy0 : 0 ≤ y := by omega
        have hy1 : y < 256 := by omega
        have qw : IntKind.u8.wrap y = y := (IntKind.wrap_u8 _).trans (by omega)
        have qm : y % 256 = y := by omega
        have HT := Aside0.mk (take8_calls wr.drew g t (.slice A1 n1 k1c :: post) x1 m1 (blk_drew HB.out) HX.out.1 (by have := HX.out.2; omega) h8 (by omega) y hy)
        have HYY := Aside0.mk hy
        have hlx : xs1.length ≤ 20000040 := by have := HQ.out.1; omega
        have hBr : B ≤ wr.heap.size := by have := HF.out.size; omega
        clear hp hy
        go_wp2
        go_region_law ((first | (go_simp; go_at_call 153; (with_reducible refine HT.out.mono ?_); rintro e w2 ⟨rfl, hb2, hf2⟩; have hr2 := HR.out.fr hf2.of_drew (fun j hj => HR.out.ne_blk HB.out hne j hj); have hBr2 : B ≤ w2.heap.size := Nat.le_trans hBr hf2.of_drew.size; have d2 : w2.cell? ⟨g, 2, none⟩ = some (.slice A1 n1 k1c) := (blk_cell hb2 2).trans (by simp); have d5 : ∀ o, (w2.alloc o).cell? ⟨g, 2, none⟩ = some (.slice A1 n1 k1c) := fun o => (blk_cell (blk_alloc hb2 o) 2).trans (by simp)) | (refine app_step B rfl _ _ 59 5 .u8 1 rfl Tryz.underlying59 infoU8 (.slice A1 n1 k1c) xs1 [y] (by rfl) ⟨w2.heap.size, 0, none⟩ 1 1 (by rfl) rfl (news_lit w2 .u8 [y] _ _ (by rfl)) (hr2.alloc _) (by simp; omega) (by unfold maxLen; omega) (by omega) ?_; intro v3 w3 hap; obtain ⟨A3, n3, m3, hv3, hn3⟩ := hap.row.shape; subst hv3; have hb3 := hap.blk1 hr2 hb2 hne; have d3 := blk_frozen hb3 2; have d4 : w3.cell? ⟨g, 2, none⟩ = some (.slice A1 n1 k1c) := (blk_cell hb3 2).trans (by simp))))
        all_goals
          have hx2 := HX.out
          have hpw : (2 : Int) ^ m1 = 2 ^ (m1 - 8) * 256 := by
            have := Int.pow_add 2 (m1 - 8) 8
            rw [show m1 - 8 + 8 = m1 by omega] at this
            exact this
          have HK : Aside0 (_ ∧ _ ∧ _ ∧ _ ∧ _) := ⟨(show (w3.setCell ⟨g, 2, none⟩ (.slice A3 n3 m3)).heap[g]? = some (.cells (.int .i64 (x1 / 256) :: .int .i64 ((m1 - 8 : Nat) : Int) :: .slice A3 n3 m3 :: post).toArray t (0, 0)) from (blk_set hb3 2 (.slice A3 n3 m3)).trans (by simp)), hap.row.set hb3 hne 2 (.slice A3 n3 m3), held_out hx2.1 h8 HL.out, (⟨by omega, by omega⟩ : 0 ≤ x1 / 256 ∧ x1 / 256 < 2 ^ (m1 - 8)),
            HF.out.su ((hf2.of_drew.suOf.su (((Fr.refl w2 _).alloc (.cells #[.int .u8 y] 5)).su ((fr_grown (hr2.alloc _) hap.grown)))).su (((Fr.refl w3 (· = g)).set1 2 (.slice A3 n3 m3)).suOf))⟩
          clear hb2 hf2 hr2 hBr2 d2 d5 hn3 hap hb3 d3 d4 hx2 hpw HT
          go_wp2
          go_roundg k1
          case measure => omega
          case rel =>
            refine ⟨x1 / 256, m1 - 8, .slice A3 n3 m3, xs1 ++ [y], by omega, ⟨HK.out.1⟩, ⟨HK.out.2.1⟩, ⟨?_⟩, ⟨HK.out.2.2.2.1⟩, ⟨?_⟩, ⟨by rw [List.length_append, List.length_singleton]; have := HQ.out.1; omega, by have := HQ.out.2; omega⟩, ⟨HK.out.2.2.2.2⟩⟩
            · rw [HYY.out]; exact HK.out.2.2.1
            · intro z hz
              rcases List.mem_append.1 hz with h | h
              · exact HY.out z h
              · rw [List.mem_singleton.1 h]; omega
    · have q1 : decide (8 ≤ (m1 : Int)) = false := decide_eq_false (by omega)
      go_wp2
      repeat (rw [Exit.noGoto_ret])
      go_returns
      exact ⟨rfl, ⟨x1, m1, _, xs1, HB.out, HR.out, by omega, HX.out.1, HX.out.2, HL.out, HY.out⟩, HF.out⟩
def alignL (L : List Int) : List Int := L ++ List.replicate ((8 - L.length % 8) % 8) 0
theorem wr_align (w : World) (B g : Nat) (t : TypeId) (post : List Value) (L : List Int) (h : WrAt w B g t post L) (hne : 5 ≠ t) (hL : L.length ≤ 100000000) (hB : B ≤ w.heap.size) :
    Calls Tryz.prog 130 #[.pointer (some ⟨g, 0, none⟩)] w fun e w' => e = .returned (.tuple #[]) ∧ WrAt w' B g t post (alignL L) ∧ Fr w w' (SU B g w) := by
  obtain ⟨x, m, v, xs, hb, hr, hh⟩ := h.open_
  have c1 : w.cell? ⟨g, 1, none⟩ = some (.int .i64 (m : Int)) := (blk_cell hb 1).trans (by simp)
  have hlen := hh.length
  have hm := hh.lt
  unfold alignL
  by_cases h0 : m = 0
  · subst h0
    have e : (8 - L.length % 8) % 8 = 0 := by omega
    rw [e, List.replicate_zero, List.append_nil]
    have H := Aside0.mk h
    clear hb hr hh h hlen e
    go_enter Tryz.func130, Tryz.ntmps130
    go_wp2
    go_returns
    exact ⟨rfl, H.out, Fr.refl _ _⟩
  · have e : (8 - L.length % 8) % 8 = 8 - m := by omega
    rw [e, ← bitsN_zero]
    have HP := Aside0.mk (wr_put w B g t post L 0 (8 - m) h hne (Int.le_refl _) (pow_pos' _) (by omega) hL hB)
    have q1 : decide (0 < (m : Int)) = true := decide_eq_true (by omega)
    have q2 : decide (0 < m) = true := decide_eq_true (by omega)
    have ec : (8 : Int) - (m : Int) = ((8 - m : Nat) : Int) := by omega
    rw [← ec] at HP
    clear hb hr hh h hlen e ec
    go_enter Tryz.func130, Tryz.ntmps130
    go_wp2_with (go_at_call 125; (with_reducible refine HP.out.mono ?_); rintro e w' ⟨rfl, h1, h2⟩)
    go_returns
    exact ⟨rfl, h1, h2⟩
set_option maxRecDepth 100000 in
theorem wr_text (w : World) (B g : Nat) (t : TypeId) (post : List Value) (L : List Int) (h : WrAt w B g t post L) (hL : L.length ≤ 100000000) :
    Calls Tryz.prog 129 #[.pointer (some ⟨g, 0, none⟩)] w fun e w' => ∃ s, e = .returned (.string s) ∧ TextOf L s ∧ Below w.heap.size w w' := by
  obtain ⟨x, m, v, xs, hb, hr, hh⟩ := h.open_
  have ks := hr.str (P := Tryz.prog) (src := 59) (dst := 9) Tryz.underlying59 Tryz.underlying5 Tryz.underlying9
  have c0 : w.cell? ⟨g, 0, none⟩ = some (.int .i64 x) := (blk_cell hb 0).trans (by simp)
  have c1 : w.cell? ⟨g, 1, none⟩ = some (.int .i64 (m : Int)) := (blk_cell hb 1).trans (by simp)
  have c2 : w.cell? ⟨g, 2, none⟩ = some v := (blk_cell hb 2).trans (by simp)
  have HT := Aside0.mk hh.text
  have hlen := hh.length
  have hl2 : xs.length ≤ 20000000 := by omega
  have hm := hh.lt
  by_cases h0 : m = 0
  · subst h0
    clear hb hr hh h hlen
    go_enter Tryz.func129, Tryz.ntmps129
    go_wp2
    repeat (rw [Exit.noGoto_ret])
    go_returns
    exact ⟨_, rfl, HT.out, Below.refl _ _⟩
  · have q1 : decide (0 < (m : Int)) = true := decide_eq_true (by omega)
    have q2 : decide (0 < m) = true := decide_eq_true (by omega)
    have hx1 := pow_le (show m ≤ 8 by omega)
    have hxr : 0 ≤ x ∧ x < 256 := ⟨hh.x0, by have := hh.x1; omega⟩
    have qw : IntKind.u8.wrap x = x := (IntKind.wrap_u8 _).trans (by omega)
    have qm : x % 256 = x := by omega
    have k1 : (convert 59 9 (.slice (some ⟨w.heap.size, 0, none⟩) 1 1)).run Tryz.prog (w.alloc (.cells #[.int .u8 x] 5)) = .ok (.string (strOfNums [x])) (w.alloc (.cells #[.int .u8 x] 5)) := by
      refine run_convert_bytes_arg _ 59 5 Tryz.underlying59 Tryz.underlying5 w.heap.size 0 1 1 [x] rfl (fun j hj => ?_) 9 Tryz.underlying9
      obtain rfl : j = 0 := by omega
      exact (blk_cell (blk_new w (.cells #[.int .u8 x] 5)) 0).trans (by simp)
    clear hb hr hh h hlen hx1
    go_enter Tryz.func129, Tryz.ntmps129
    go_wp2
    · rename_i hbig
      rw [strOfNums_size, strOfNums_size, List.length_singleton] at hbig
      omega
    · repeat (rw [Exit.noGoto_ret])
      go_returns
      refine ⟨_, rfl, ?_, below_alloc (Below.refl _ _) _⟩
      have hp : strOfNums (packL xs x m) = strOfNums xs ++ strOfNums [x] := by
        unfold packL
        rw [if_neg h0]
        apply ByteArray.ext
        apply Array.toList_inj.1
        rw [strOfNums_data, ByteArray.data_append, Array.toList_append, strOfNums_data, strOfNums_data, List.map_append]
      rw [← hp]
      exact HT.out
theorem WrAt.new (w : World) (B : Nat) : WrAt (w.alloc (.cells #[.int .i64 0, .int .i64 0, .slice none 0 0] 138)) B w.heap.size 138 [] [] :=
  ⟨0, 0, _, [], blk_new w _, Row.nil _ _ _ _, Held.nil⟩
end Go.Proofs.YtghoifkaikddlaaGreat.Hand
namespace Go.Proofs.YtghoifkaikddlaaGreat.Hand
open Go.RowKit Go.Proofs.YtghoifkaikddlaaGreatW.PrintWords Go.Proofs.YtghoifkaikddlaaGreatW.PrintLast Go.Proofs.YtghoifkaikddlaaGreat.Num Go.Proofs.YtghoifkaikddlaaGreat.Bits Go.Proofs.YtghoifkaikddlaaGreat.P08
set_option linter.unusedVariables false
theorem ev_step {α : Type} {g f : Nat → Option α} {r : α} (h : Ev f r) (hs : ∀ k, g (k + 1) = f k) : Ev g r := by
 obtain ⟨K, h⟩ := h
 exact ⟨K + 1, fun k hk => by
  obtain ⟨k, rfl⟩ : ∃ m, k = m + 1 := ⟨k - 1, by omega⟩
  rw [hs k]
  exact h k (by omega)⟩
end Go.Proofs.YtghoifkaikddlaaGreat.Hand
namespace Go.Proofs.YtghoifkaikddlaaGreat.Hand
open Go.RowKit Go.Proofs.YtghoifkaikddlaaGreatW.PrintWords Go.Proofs.YtghoifkaikddlaaGreatW.PrintLast Go.Proofs.YtghoifkaikddlaaGreatW.PrintMore Go.Proofs.YtghoifkaikddlaaGreat.Num Go.Proofs.YtghoifkaikddlaaGreat.Bits Go.Proofs.YtghoifkaikddlaaGreat.P08
set_option linter.unusedVariables false
set_option linter.unusedSimpArgs false
theorem infoI64 : (Tryz.prog.info? 3).map (fun i => (i.zero, i.size, i.bytes)) = some (some (.int .i64 0), 1, 8) := by kernel_rfl
theorem Row.kdC {W : World} {B : Nat} {xs : List Int} {A : Option Addr} {n c : Nat} (h : Row W B 3 .i64 (.slice A n c) xs) : n = xs.length ∧ xs.length ≤ c ∧ Kd.C (Kd.int .i64) W A xs.length xs := by
 have h2 := Kd.R_reads' (d := Kd.int .i64) (Kd.R_of_own (ok := fun _ => True) h (fun _ _ => trivial))
 exact ⟨h2.1, by have := h2.2.1; omega, h2.2.2⟩
end Go.Proofs.YtghoifkaikddlaaGreat.Hand
