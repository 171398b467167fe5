/- The contracts of bitrow.Reader and bitrow.Writer of the given program: bits one behind the other. The contracts of bitrow.Writer: what is put stands behind what was put. -/
import Derived.Test.YtfoicjlkbkjfjaaBits
import Derived.Handy
namespace Go.Proofs.Ytfoicjlkbkjfjaa.Hand
open Go.RowKit Go.Proofs.YtfoicjlkbkjfjaaW.PrintWords Go.Proofs.YtfoicjlkbkjfjaaW.PrintLast Go.Proofs.YtfoicjlkbkjfjaaW.PrintMore Go.Proofs.Ytfoicjlkbkjfjaa.Num Go.Proofs.Ytfoicjlkbkjfjaa.Bits
set_option linter.unusedVariables false
set_option linter.unusedSimpArgs false
theorem wrap62 {x : Int} (h0 : 0 ≤ x) (h1 : x < 2 ^ 62) : IntKind.i64.wrap x = x := IntWalk.i64_in _ (by omega)
theorem pow_le {a b : Nat} (h : a ≤ b) : (2 : Int) ^ a ≤ 2 ^ b := pow_le2 h
theorem pow_pos' (a : Nat) : (0 : Int) < 2 ^ a := Int.pow_pos (by decide)
theorem mul_pow_lt {x : Int} {a b : Nat} (h0 : 0 ≤ x) (h : x < 2 ^ a) : x * 2 ^ b < 2 ^ (a + b) := by
  rw [Int.pow_add]; exact Int.mul_lt_mul_of_pos_right h (pow_pos' b)
theorem or_shift {x n : Int} {m k : Nat} (hx0 : 0 ≤ x) (hx : x < 2 ^ m) (hn0 : 0 ≤ n) (hn : n < 2 ^ k) (hmk : m + k ≤ 62) : bits .or .i64 x (n * 2 ^ m) = x + n * 2 ^ m := by
  have h1 := mul_pow_lt (b := m) hn0 hn
  have h2 := pow_le (show k + m ≤ 62 by omega)
  have h3 := pow_le (show m ≤ 62 by omega)
  have h4 : 0 ≤ n * 2 ^ m := Int.mul_nonneg hn0 (Int.le_of_lt (pow_pos' m))
  have hz := bits_join .i64 62 (by decide) (fun n h0 h1 => wrap62 h0 h1) m (n * 2 ^ m) x h4 (Int.mul_emod_left _ _) (by omega) hx0 hx (by omega)
  obtain ⟨a, ha⟩ := Int.eq_ofNat_of_zero_le hx0
  obtain ⟨b, hb⟩ := Int.eq_ofNat_of_zero_le h4
  rw [hb] at hz h1 h4 ⊢
  rw [ha] at hz hx ⊢
  have ea : a < 2 ^ 62 := by have : (a : Int) < 2 ^ 62 := by omega
                             exact_mod_cast this
  have eb : b < 2 ^ 62 := by have : (b : Int) < 2 ^ 62 := by omega
                             exact_mod_cast this
  rw [(bits_nat .i64 62 (by decide) (fun n h0 h1 => wrap62 h0 h1) b a eb ea).2] at hz
  rw [(bits_nat .i64 62 (by decide) (fun n h0 h1 => wrap62 h0 h1) a b ea eb).2, Nat.or_comm, hz]
  omega
theorem and_mask {x : Int} {k : Nat} (h0 : 0 ≤ x) (h : x < 2 ^ 62) (hk : k ≤ 62) : bits .and .i64 x (2 ^ k - 1) = x % 2 ^ k := bits_mask .i64 62 (by decide) (fun n h0 h1 => wrap62 h0 h1) k hk x h0 h
def U8 (w : World) (k : Nat) : Prop := ∃ cs fr, w.heap[k]? = some (.cells cs 5 fr)
def SU (B g : Nat) (w : World) (k : Nat) : Prop := k = g ∨ (B ≤ k ∧ U8 w k)
def rdMany (p : Nat) : Nat := (8 - p % 8) % 8
def rdAt (p : Nat) : Nat := (p + 7) / 8
theorem rd_eq (p : Nat) : 8 * rdAt p = p + rdMany p := by unfold rdAt rdMany; omega
theorem rdMany_lt (p : Nat) : rdMany p < 8 := by unfold rdMany; omega
structure RdAt (w : World) (g : Nat) (s : ByteArray) (p : Nat) : Prop where
  blk : w.heap[g]? = some (.cells #[.int .i64 (val s p (rdMany p)), .int .i64 (rdMany p : Int), .string s, .int .i64 (rdAt p : Int)] 103 (0, 0))
  le : p ≤ 8 * s.size
theorem RdAt.fr {w w' : World} {g : Nat} {s : ByteArray} {p : Nat} {S : Nat → Prop} (h : RdAt w g s p) (hf : Fr w w' S) (hg : ¬ S g) : RdAt w' g s p := ⟨hf.blk h.blk hg, h.le⟩
theorem RdAt.drawn {w w' : World} {g : Nat} {s : ByteArray} {p : Nat} (h : RdAt w g s p) (hd : Drawn0 w w') : RdAt w' g s p := by
  obtain ⟨n, rfl⟩ := hd.out; exact ⟨h.blk, h.le⟩
theorem RdAt.open_ {w : World} {g : Nat} {s : ByteArray} {p : Nat} (h : RdAt w g s p) : ∃ (x : Int) (m a : Nat), w.heap[g]? = some (.cells #[.int .i64 x, .int .i64 (m : Int), .string s, .int .i64 (a : Int)] 103 (0, 0)) ∧ x = val s p m ∧ 8 * a = p + m ∧ m < 8 ∧ p ≤ 8 * s.size :=
  ⟨_, _, _, h.blk, rfl, rd_eq p, rdMany_lt p, h.le⟩
theorem RdAt.shut {w : World} {g : Nat} {s : ByteArray} {p : Nat} {x : Int} {m a : Nat} (hb : w.heap[g]? = some (.cells #[.int .i64 x, .int .i64 (m : Int), .string s, .int .i64 (a : Int)] 103 (0, 0))) (hx : x = val s p m) (ha : 8 * a = p + m) (hm : m < 8) (hp : p ≤ 8 * s.size) : RdAt w g s p := by
  have e1 : m = rdMany p := by unfold rdMany; omega
  have e2 : a = rdAt p := by unfold rdAt; omega
  subst hx e1 e2
  exact ⟨hb, hp⟩
theorem come_calls (w : World) (g : Nat) (t : TypeId) (post : List Value) (x n : Int) (m k : Nat) (hb : w.heap[g]? = some (.cells (.int .i64 x :: .int .i64 (m : Int) :: post).toArray t (0, 0)))
    (hx0 : 0 ≤ x) (hx : x < 2 ^ m) (hn0 : 0 ≤ n) (hn : n < 2 ^ k) (hk : k ≤ 16) (hm : m ≤ 40) :
    Calls Try.prog 49 #[.pointer (some ⟨g, 0, none⟩), .int .i64 n, .int .i64 (k : Int)] w fun e w' => e = .returned (.tuple #[]) ∧
      w'.heap[g]? = some (.cells (.int .i64 (x + n * 2 ^ m) :: .int .i64 ((m + k : Nat) : Int) :: post).toArray t (0, 0)) ∧ Fr w w' (· = g) := by
  have c0 : w.cell? ⟨g, 0, none⟩ = some (.int .i64 x) := (blk_cell hb 0).trans (by simp)
  have c1 : w.cell? ⟨g, 1, none⟩ = some (.int .i64 (m : Int)) := (blk_cell hb 1).trans (by simp)
  have f0 := blk_frozen hb 0
  have f1 := blk_frozen hb 1
  have h1 := mul_pow_lt (b := m) hn0 hn
  have h2 := pow_le (show k + m ≤ 62 by omega)
  have h4 : 0 ≤ n * 2 ^ m := Int.mul_nonneg hn0 (Int.le_of_lt (pow_pos' m))
  have q1 : wrap64 (n * 2 ^ m) = n * 2 ^ m := w64 (by omega) (by omega)
  have q2 := or_shift hx0 hx hn0 hn (show m + k ≤ 62 by omega)
  have HF : Aside0 (∀ u v, Fr w (((w.setCell ⟨g, 0, none⟩ u).setCell ⟨g, 1, none⟩ v).drew) (· = g)) := ⟨fun u v => (((Fr.refl w _).set1 0 u).set1 1 v).drew⟩
  clear hx hn h1 h2 h4
  go_enter Try.func49, Try.ntmps49
  go_wp2
  go_region
  all_goals go_wp2
  all_goals go_end0
  all_goals
    refine ⟨rfl, ?_, HF.out _ _⟩
    exact (blk_set (blk_set hb 0 _) 1 _).trans (by simp)
theorem come8_calls (w : World) (g : Nat) (t : TypeId) (post : List Value) (x n : Int) (m : Nat) (hb : w.heap[g]? = some (.cells (.int .i64 x :: .int .i64 (m : Int) :: post).toArray t (0, 0)))
    (hx0 : 0 ≤ x) (hx : x < 2 ^ m) (hn0 : 0 ≤ n) (hn : n < 2 ^ 8) (hm : m ≤ 40) :
    Calls Try.prog 49 #[.pointer (some ⟨g, 0, none⟩), .int .i64 n, .int .i64 8] w fun e w' => e = .returned (.tuple #[]) ∧
      w'.heap[g]? = some (.cells (.int .i64 (x + n * 2 ^ m) :: .int .i64 ((m + 8 : Nat) : Int) :: post).toArray t (0, 0)) ∧ Fr w w' (· = g) := come_calls w g t post x n m 8 hb hx0 hx hn0 hn (by omega) hm
theorem take_calls (w : World) (g : Nat) (t : TypeId) (post : List Value) (x : Int) (m k : Nat) (hb : w.heap[g]? = some (.cells (.int .i64 x :: .int .i64 (m : Int) :: post).toArray t (0, 0)))
    (hx0 : 0 ≤ x) (hx : x < 2 ^ 62) (hk : k ≤ 16) (hm : k ≤ m) (hm2 : m ≤ 60) :
    Calls Try.prog 50 #[.pointer (some ⟨g, 0, none⟩), .int .i64 (k : Int)] w fun e w' => e = .returned (.int .i64 (x % 2 ^ k)) ∧
      w'.heap[g]? = some (.cells (.int .i64 (x / 2 ^ k) :: .int .i64 ((m - k : Nat) : Int) :: post).toArray t (0, 0)) ∧ Fr w w' (· = g) := by
  have c0 : w.cell? ⟨g, 0, none⟩ = some (.int .i64 x) := (blk_cell hb 0).trans (by simp)
  have c1 : w.cell? ⟨g, 1, none⟩ = some (.int .i64 (m : Int)) := (blk_cell hb 1).trans (by simp)
  have f0 := blk_frozen hb 0
  have f1 := blk_frozen hb 1
  have hp := pow_le (show k ≤ 16 by omega)
  have hp0 := pow_pos' k
  have q0 : bits .and .i64 x (wrap64 (wrap64 (2 ^ k) - 1)) = x % 2 ^ k := by
    rw [w64 (x := 2 ^ k) (by omega) (by omega), w64 (x := 2 ^ k - 1) (by omega) (by omega)]
    exact and_mask hx0 hx (by omega)
  have Q0 := Aside0.mk q0
  clear q0 hp hp0
  have HF : Aside0 (∀ nq u v, Fr w ((((w.drewN nq).setCell ⟨g, 0, none⟩ u).setCell ⟨g, 1, none⟩ v)) (· = g)) := ⟨fun nq u v => ((((Fr.refl w _).drewN nq).set1 0 u).set1 1 v)⟩
  have HB := Aside0.mk hb
  clear hb
  go_enter Try.func50, Try.ntmps50
  go_wp2
  go_quiet (fail)
  go_wp2
  go_ret
  rw [Q0.out]
  refine ⟨rfl, ?_, HF.out _ _ _⟩
  have e : ((m - k : Nat) : Int) = (m : Int) - (k : Int) := by omega
  rw [e]
  exact (blk_set (blk_set (blk_drewN HB.out nq) 0 _) 1 _).trans (by simp)
theorem fits_calls (k : Int) (w : World) : Calls Try.prog 48 #[.int .i64 k] w fun e w' => e = .returned (.bool (decide (0 ≤ k) && decide (k ≤ 16))) ∧ w = w' := by
  by_cases h : 0 ≤ k
  · have q1 : decide (0 ≤ k) = true := decide_eq_true h
    go_enter Try.func48, Try.ntmps48
    go_wp2
    go_ret
    rw [q1]
    exact ⟨rfl, rfl⟩
  · have q1 : decide (0 ≤ k) = false := decide_eq_false h
    go_enter Try.func48, Try.ntmps48
    go_wp2
    go_ret
    exact ⟨rfl, rfl⟩
theorem rd_new (s : ByteArray) (w : World) : Calls Try.prog 38 #[.string s] w fun e w' => e = .returned (.pointer (some ⟨w.heap.size, 0, none⟩)) ∧ RdAt w' w.heap.size s 0 ∧ Below w.heap.size w w' := by
  go_enter Try.func38, Try.ntmps38
  go_wp2
  go_ret
  exact ⟨rfl, RdAt.shut (x := 0) (m := 0) (a := 0) (blk_new w _) rfl rfl (by omega) (by omega), below_alloc (Below.refl _ _) _⟩
theorem rd_at (w : World) (g : Nat) (s : ByteArray) (p : Nat) (h : RdAt w g s p) (hs : s.size ≤ 10000000) : Calls Try.prog 40 #[.pointer (some ⟨g, 0, none⟩)] w fun e w' => e = .returned (.int .i64 p) ∧ Drawn0 w w' := by
  obtain ⟨x, m, a, hb, hx, ha, hm, hp⟩ := h.open_
  have c1 : w.cell? ⟨g, 1, none⟩ = some (.int .i64 (m : Int)) := blk_cell hb 1
  have c3 : w.cell? ⟨g, 3, none⟩ = some (.int .i64 (a : Int)) := blk_cell hb 3
  have HA := Aside0.mk ha
  have ha2 : a ≤ 20000000 := by omega
  clear ha hb hx
  go_enter Try.func40, Try.ntmps40
  go_wp2
  go_quiet (fail)
  go_wp2
  go_ret
  have e : (8 * (a : Int) - (m : Int)) = (p : Int) := by have := HA.out; omega
  rw [e]
  exact ⟨rfl, ⟨_, rfl⟩⟩
theorem rd_align (w : World) (g : Nat) (s : ByteArray) (p : Nat) (h : RdAt w g s p) (hs : s.size ≤ 10000000) : Calls Try.prog 77 #[.pointer (some ⟨g, 0, none⟩)] w fun e w' => e = .returned (.tuple #[]) ∧ RdAt w' g s (8 * rdAt p) ∧ Fr w w' (· = g) := by
  obtain ⟨x, m, a, hb, hx, ha, hm, hp⟩ := h.open_
  have c1 : w.cell? ⟨g, 1, none⟩ = some (.int .i64 (m : Int)) := blk_cell hb 1
  have hv := val_range s p m
  rw [← hx] at hv
  have hx2 := pow_le (show m ≤ 62 by omega)
  have hxl : x < 2 ^ 62 := by omega
  have q1 : (m : Int).tmod 8 = (m : Int) := (tm _ (by omega)).trans (by omega)
  have HX : Aside0 (_ ∧ _ ∧ _ ∧ _ ∧ _) := ⟨hb, hv.1, hxl, hx, ha⟩
  clear hb hx ha hv hx2 hxl
  go_enter Try.func77, Try.ntmps77
  go_wp2_with fail
  go_region_with (go_at_call 50; (with_reducible refine (take_calls _ g 103 [.string s, .int .i64 (a : Int)] x m m (blk_drew HX.out.1) HX.out.2.1 HX.out.2.2.1 (by omega) (Nat.le_refl _) (by omega)).mono ?_); rintro e w' ⟨rfl, hb', hf'⟩)
  all_goals go_wp2
  all_goals go_end0
  all_goals
    obtain ⟨hb, h0, h1, hx, ha⟩ := HX.out
    have hv := val_range s p m
    rw [← hx] at hv
    have ez : x / 2 ^ m = 0 := Int.ediv_eq_zero_of_lt hv.1 hv.2
    rw [ez, Nat.sub_self] at hb'
    exact ⟨rfl, RdAt.shut hb' rfl (by unfold rdAt; omega) (by omega) (by unfold rdAt; omega), hf'.of_drew⟩
set_option maxHeartbeats 2000000 in
theorem rd_get (w : World) (g : Nat) (s : ByteArray) (p k : Nat) (h : RdAt w g s p) (hs : s.size ≤ 10000000) (hk : k ≤ 16) (hpk : p + k ≤ 8 * s.size) :
    Calls Try.prog 62 #[.pointer (some ⟨g, 0, none⟩), .int .i64 (k : Int)] w fun e w' => e = .returned (.tuple #[.int .i64 (val s p k), .int .i64 0]) ∧ RdAt w' g s (p + k) ∧ Fr w w' (· = g) := by
  obtain ⟨x, m, a, hb, hx, ha, hm, hp⟩ := h.open_
  have c1 : w.cell? ⟨g, 1, none⟩ = some (.int .i64 (m : Int)) := blk_cell hb 1
  have c2 : w.cell? ⟨g, 2, none⟩ = some (.string s) := blk_cell hb 2
  have c3 : w.cell? ⟨g, 3, none⟩ = some (.int .i64 (a : Int)) := blk_cell hb 3
  have q0 : decide (0 ≤ (k : Int)) = true := decide_eq_true (by omega)
  have q1 : decide ((k : Int) ≤ 16) = true := decide_eq_true (by omega)
  have q2 : decide (8 * ((s.size : Int) - (a : Int)) < (k : Int) - (m : Int)) = false := decide_eq_false (by omega)
  have hal : a ≤ s.size := by omega
  have HB := Aside0.mk (⟨hb, hx, ha⟩ : _ ∧ _ ∧ _)
  clear hb hx ha
  go_enter Try.func62, Try.ntmps62
  go_wp2_with (go_at_call 48; (with_reducible refine (fits_calls _ _).mono ?_); rintro e w' ⟨rfl, rfl⟩)
  go_quiet (fail)
  go_wp2
  go_loopg [33] (k + 1) (fun kq v33 wr => ∃ (x1 : Int) (m1 a1 : Nat), m1 ≤ 23 ∧ Aside0 (wr.heap[g]? = some (.cells #[.int .i64 x1, .int .i64 (m1 : Int), .string s, .int .i64 (a1 : Int)] 103 (0, 0))) ∧ Aside0 (x1 = val s p m1 ∧ 8 * a1 = p + m1) ∧ Aside0 (k ≤ m1 + kq) ∧ Aside0 (m1 < k + 8 ∨ m1 < 8) ∧ Aside0 (Fr w wr (· = g)))
  case atStart => exact ⟨x, m, a, by omega, ⟨blk_drewN HB.out.1 _⟩, ⟨HB.out.2⟩, ⟨by omega⟩, ⟨by omega⟩, ⟨(Fr.refl _ _).drewN _⟩⟩
  case round =>
    clear HB c1 c2 c3 hal q2
    obtain ⟨x1, m1, a1, hm23, HB, HX, HK, HM, HF⟩ := hrel
    have c1 : wr.cell? ⟨g, 1, none⟩ = some (.int .i64 (m1 : Int)) := blk_cell HB.out 1
    have c2 : wr.cell? ⟨g, 2, none⟩ = some (.string s) := blk_cell HB.out 2
    have c3 : wr.cell? ⟨g, 3, none⟩ = some (.int .i64 (a1 : Int)) := blk_cell HB.out 3
    have hv := val_range s p m1
    rw [← HX.out.1] at hv
    by_cases hlt : m1 < k
    · cases gk with
      | zero => exact absurd HK.out (by omega)
      | succ k1 =>
        have hlt2 : decide ((m1 : Int) < (k : Int)) = true := decide_eq_true (by omega)
        have hlt3 : decide (m1 < k) = true := decide_eq_true hlt
        have hal : a1 < s.size := by have := HX.out.2; omega
        have hby := bt_range s (a1 : Int)
        have hbt : (s[a1].toNat : Int) = bt s (a1 : Int) := (bt_nat s a1 hal).symm
        have HV : Aside0 (_ ∧ _ ∧ _) := ⟨hv, hby, bt_nat s a1 hal⟩
        obtain ⟨y, hy⟩ : ∃ y : Int, y = bt s (a1 : Int) := ⟨_, rfl⟩
        rw [← hy] at hbt hby
        have HY := Aside0.mk hy
        have hy0 := hby.1
        have hy1 : y < 2 ^ 8 := by omega
        have HZ : Aside0 (_ ∧ _ ∧ _ ∧ _) := ⟨hv.1, hv.2, hy0, hy1⟩
        have qw : IntKind.i64.wrap y = y := IntWalk.i64_in _ (by omega)
        clear hv hby hy hy0 hy1 HV
        go_wp2
        go_region_with (go_at_call 49; (with_reducible refine (come8_calls _ g 103 [.string s, .int .i64 (a1 : Int)] x1 y m1 (blk_drew HB.out) HZ.out.1 HZ.out.2.1 HZ.out.2.2.1 HZ.out.2.2.2 (by omega)).mono ?_); rintro e w' ⟨rfl, hb', hf'⟩)
        all_goals
          have hx1 : x1 + y * 2 ^ m1 = val s p (m1 + 8) := by
            rw [val_add, ← HX.out.1, show p + m1 = 8 * a1 from HX.out.2.symm, val_byte, ← HY.out, Int.mul_comm]
          rw [hx1] at hb'
          have HB2 : Aside0 (_ ∧ _) := ⟨hb', HF.out.then_ hf'.of_drew⟩
          have d3 : w'.cell? ⟨g, 3, none⟩ = some (.int .i64 (a1 : Int)) := blk_cell hb' 3
          have d4 := blk_frozen hb' 3
          clear hb' hf' hx1 c1 c2 c3 hbt
          go_wp2
          go_roundg k1
          case measure => omega
          case rel =>
            refine ⟨_, m1 + 8, a1 + 1, by have := HM.out; omega, ⟨?_⟩, ⟨rfl, by have := HX.out.2; omega⟩, ⟨by have := HK.out; omega⟩, ⟨by omega⟩, ⟨HB2.out.2.set1 3 _⟩⟩
            exact (blk_set HB2.out.1 3 _).trans (by simp)
    · have hlt2 : decide ((m1 : Int) < (k : Int)) = false := decide_eq_false (by omega)
      have hlt3 : decide (m1 < k) = false := decide_eq_false hlt
      have hp2 := pow_le (show m1 ≤ 62 by omega)
      have hx62 : x1 < 2 ^ 62 := by omega
      have HT := Aside0.mk (take_calls wr g 103 [.string s, .int .i64 (a1 : Int)] x1 m1 k HB.out hv.1 hx62 hk (by omega) (by omega))
      clear hv hp2 hx62
      go_wp2_with (go_at_call 50; (with_reducible refine HT.out.mono ?_); rintro e w' ⟨rfl, hb', hf'⟩)
      repeat (rw [Exit.noGoto_ret])
      go_returns
      have hx := HX.out.1
      have ek : m1 = k + (m1 - k) := by omega
      rw [ek] at hx
      have e1 : x1 % 2 ^ k = val s p k := by rw [hx]; exact val_mod s p k _
      have e2 : x1 / 2 ^ k = val s (p + k) (m1 - k) := by rw [hx]; exact val_div s p k _
      rw [e1]
      refine ⟨rfl, RdAt.shut hb' e2 (by have := HX.out.2; omega) (by have := HM.out; omega) hpk, HF.out.then_ hf'⟩
theorem rd_get_short (w : World) (g : Nat) (s : ByteArray) (p k : Nat) (h : RdAt w g s p) (hs : s.size ≤ 10000000) (hk : k ≤ 16) (hpk : 8 * s.size < p + k) :
    Calls Try.prog 62 #[.pointer (some ⟨g, 0, none⟩), .int .i64 (k : Int)] w fun e w' => e = .returned (.tuple #[.int .i64 0, .int .i64 5]) ∧ Drawn0 w w' := by
  obtain ⟨x, m, a, hb, hx, ha, hm, hp⟩ := h.open_
  have c1 : w.cell? ⟨g, 1, none⟩ = some (.int .i64 (m : Int)) := blk_cell hb 1
  have c2 : w.cell? ⟨g, 2, none⟩ = some (.string s) := blk_cell hb 2
  have c3 : w.cell? ⟨g, 3, none⟩ = some (.int .i64 (a : Int)) := blk_cell hb 3
  have q0 : decide (0 ≤ (k : Int)) = true := decide_eq_true (by omega)
  have q1 : decide ((k : Int) ≤ 16) = true := decide_eq_true (by omega)
  have q2 : decide (8 * ((s.size : Int) - (a : Int)) < (k : Int) - (m : Int)) = true := decide_eq_true (by omega)
  have hal : a ≤ s.size := by omega
  clear hb hx ha
  go_enter Try.func62, Try.ntmps62
  go_wp2_with (go_at_call 48; (with_reducible refine (fits_calls _ _).mono ?_); rintro e w' ⟨rfl, rfl⟩)
  go_quiet (fail)
  go_wp2
  repeat (rw [Exit.noGoto_ret])
  go_returns
  exact ⟨rfl, ⟨_, rfl⟩⟩
set_option maxHeartbeats 1000000 in
theorem rd_bytes (w : World) (g : Nat) (s : ByteArray) (p n : Nat) (h : RdAt w g s p) (hs : s.size ≤ 10000000) (hn : rdAt p + n ≤ s.size) :
    Calls Try.prog 78 #[.pointer (some ⟨g, 0, none⟩), .int .i64 (n : Int)] w fun e w' => e = .returned (.tuple #[.string (s.extract (rdAt p) (rdAt p + n)), .int .i64 0]) ∧ RdAt w' g s (8 * (rdAt p + n)) ∧ Fr w w' (· = g) := by
  have hra : rdAt p ≤ s.size := by omega
  obtain ⟨x, m, a, hb, hx, ha, hm, hp⟩ := h.open_
  have c0 : w.cell? ⟨g, 0, none⟩ = some (.int .i64 x) := blk_cell hb 0
  have c1 : w.cell? ⟨g, 1, none⟩ = some (.int .i64 (m : Int)) := blk_cell hb 1
  have c2 : w.cell? ⟨g, 2, none⟩ = some (.string s) := blk_cell hb 2
  have c3 : w.cell? ⟨g, 3, none⟩ = some (.int .i64 (a : Int)) := blk_cell hb 3
  have f0 := blk_frozen hb 0
  have f1 := blk_frozen hb 1
  have f3 := blk_frozen hb 3
  have ea : a = rdAt p := by unfold rdAt; omega
  subst ea
  obtain ⟨a, hae⟩ : ∃ a, a = rdAt p := ⟨_, rfl⟩
  rw [← hae] at hn hra c3 hb ha ⊢
  have q1 : decide ((n : Int) < 0) = false := decide_eq_false (by omega)
  have q2 : (m : Int).tdiv 8 = 0 := (td _ (by omega)).trans (by omega)
  have q3 : decide ((s.size : Int) - (a : Int) < (n : Int)) = false := decide_eq_false (by omega)
  have ksl : ∀ W : World, (Instr.slice 9 (.string s) (some (.int .i64 (a : Int))) (some (.int .i64 ((a : Int) + (n : Int)))) none).run Try.prog W = .ok (.string (s.extract a (a + n))) W := slice_str 9 s a (a + n) _ _ Try.underlying9 rfl (by omega) (by omega) hn
  have HB := Aside0.mk hb
  clear hb hx ha hae
  go_enter Try.func78, Try.ntmps78
  go_wp2
  go_quiet (fail)
  go_wp2
  go_quiet (fail)
  go_wp2
  repeat (rw [Exit.noGoto_ret])
  go_returns
  refine ⟨rfl, RdAt.shut (x := 0) (m := 0) (a := a + n) ?_ rfl rfl (by omega) (by omega), ?_⟩
  · have e : ((a + n : Nat) : Int) = (a : Int) + (n : Int) := by omega
    rw [e]
    exact (blk_set (blk_set (blk_set HB.out 0 _) 1 _) 3 _).trans (by simp)
  · exact (((((Fr.refl w (· = g)).drewN _).set1 0 _).set1 1 _).set1 3 _).drewN _
theorem rd_bytes_short (w : World) (g : Nat) (s : ByteArray) (p n : Nat) (h : RdAt w g s p) (hs : s.size ≤ 10000000) (hn : s.size < rdAt p + n) :
    Calls Try.prog 78 #[.pointer (some ⟨g, 0, none⟩), .int .i64 (n : Int)] w fun e w' => e = .returned (.tuple #[.string ⟨#[]⟩, .int .i64 5]) ∧ Drawn0 w w' := by
  obtain ⟨x, m, a, hb, hx, ha, hm, hp⟩ := h.open_
  have c1 : w.cell? ⟨g, 1, none⟩ = some (.int .i64 (m : Int)) := blk_cell hb 1
  have c2 : w.cell? ⟨g, 2, none⟩ = some (.string s) := blk_cell hb 2
  have c3 : w.cell? ⟨g, 3, none⟩ = some (.int .i64 (a : Int)) := blk_cell hb 3
  have ea : a = rdAt p := by unfold rdAt; omega
  subst ea
  have hra : rdAt p ≤ s.size := by omega
  obtain ⟨a, hae⟩ : ∃ a, a = rdAt p := ⟨_, rfl⟩
  rw [← hae] at hn hra c3 ha
  have q1 : decide ((n : Int) < 0) = false := decide_eq_false (by omega)
  have q2 : (m : Int).tdiv 8 = 0 := (td _ (by omega)).trans (by omega)
  have q3 : decide ((s.size : Int) - (a : Int) < (n : Int)) = true := decide_eq_true (by omega)
  clear hb hx ha hae
  go_enter Try.func78, Try.ntmps78
  go_wp2
  go_quiet (fail)
  go_wp2
  repeat (rw [Exit.noGoto_ret])
  go_returns
  exact ⟨rfl, ⟨_, rfl⟩⟩
end Go.Proofs.Ytfoicjlkbkjfjaa.Hand
namespace Go.Proofs.Ytfoicjlkbkjfjaa.Hand
open Go.RowKit Go.Proofs.YtfoicjlkbkjfjaaW.PrintWords Go.Proofs.YtfoicjlkbkjfjaaW.PrintLast Go.Proofs.YtfoicjlkbkjfjaaW.PrintMore Go.Proofs.Ytfoicjlkbkjfjaa.Num Go.Proofs.Ytfoicjlkbkjfjaa.Bits
set_option linter.unusedVariables false
set_option linter.unusedSimpArgs false
structure WrAt (w : World) (B g : Nat) (t : TypeId) (post : List Value) (L : List Int) : Prop where
  open_ : ∃ (x : Int) (m : Nat) (v : Value) (xs : List Int), w.heap[g]? = some (.cells (.int .i64 x :: .int .i64 (m : Int) :: v :: post).toArray t (0, 0)) ∧ Row w B 5 .u8 v xs ∧ Held L xs x m
theorem WrAt.drawn {w w' : World} {B g : Nat} {t : TypeId} {post : List Value} {L : List Int} (h : WrAt w B g t post L) (hd : Drawn0 w w') : WrAt w' B g t post L := by
  obtain ⟨n, rfl⟩ := hd.out; exact ⟨h.open_⟩
theorem WrAt.below {w w' : World} {B g : Nat} {t : TypeId} {post : List Value} {L : List Int} (h : WrAt w B g t post L) (hb : Below w.heap.size w w') : WrAt w' B g t post L := by
  obtain ⟨x, m, v, xs, h1, h2, h3⟩ := h.open_
  exact ⟨x, m, v, xs, blk_below h1 hb, h2.below hb, h3⟩
theorem WrAt.fr {w w' : World} {B g : Nat} {t : TypeId} {post : List Value} {L : List Int} {S : Nat → Prop} (h : WrAt w B g t post L) (hf : Fr w w' S) (hg : ¬ S g) (hu : ∀ k, U8 w k → ¬ S k) : WrAt w' B g t post L := by
  obtain ⟨x, m, v, xs, h1, h2, h3⟩ := h.open_
  exact ⟨x, m, v, xs, hf.blk h1 hg, h2.fr hf (fun k hk => hu k (by obtain ⟨cs, hc⟩ := h2.blk k hk; exact ⟨cs, (0, 0), hc⟩)), h3⟩
theorem WrAt.new (w : World) (B : Nat) : WrAt (w.alloc (.cells #[.int .i64 0, .int .i64 0, .slice none 0 0] 39)) B w.heap.size 39 [] [] :=
  ⟨0, 0, _, [], blk_new w _, Row.nil _ _ _ _, Held.nil⟩
end Go.Proofs.Ytfoicjlkbkjfjaa.Hand
