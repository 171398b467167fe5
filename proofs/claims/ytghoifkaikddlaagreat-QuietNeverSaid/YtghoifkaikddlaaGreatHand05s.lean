/- The contract of adler.Sum of the given program: they tell the sum that the plain Lean function 'grow' folds. -/
import Derived.Test.YtghoifkaikddlaaGreatBits
namespace Go.Proofs.YtghoifkaikddlaaGreat.Hand
open Go.RowKit Go.Proofs.YtghoifkaikddlaaGreatW.PrintWords Go.Proofs.YtghoifkaikddlaaGreatW.PrintLast Go.Proofs.YtghoifkaikddlaaGreatW.PrintMore
set_option linter.unusedVariables false
set_option linter.unusedSimpArgs false
def adlerGrow (p : Int × Int) (c : Int) : Int × Int := ((p.1 + c) % 65521, (p.2 + (p.1 + c) % 65521) % 65521)
theorem adler_grow_calls (g : Nat) (a b c : Int) (w : World) (hb : w.heap[g]? = some (.cells #[.int .i64 a, .int .i64 b] 157 (0, 0)))
  (ha0 : 0 ≤ a) (ha1 : a < 65536) (hb0 : 0 ≤ b) (hb1 : b < 65536) (hc0 : 0 ≤ c) (hc1 : c < 256) :
  Calls Tryz.prog 160 #[.pointer (some ⟨g, 0, none⟩), .int .u8 c] w fun e w' => e = .returned (.tuple #[]) ∧ Fr w w' (· = g) ∧ 
   w'.heap[g]? = some (.cells #[.int .i64 (adlerGrow (a, b) c).1, .int .i64 (adlerGrow (a, b) c).2] 157 (0, 0)) := by
 have h0 := blk_cell hb 0
 have h1 := blk_cell hb 1
 have f0 := blk_frozen hb 0
 have f1 := blk_frozen hb 1
 have HF : ∀ u v, Fr w (((w.setCell ⟨g, 0, none⟩ u).setCell ⟨g, 1, none⟩ v).drew) (· = g) := fun u v => (((Fr.refl w _).set1 0 u).set1 1 v).drew
 have HH := Aside0.mk HF
 clear HF
 go_enter Tryz.func160, Tryz.ntmps160
 go_wp2
 go_region
 all_goals go_wp2
 all_goals go_end0
 all_goals
  refine ⟨rfl, HH.out _ _, ?_⟩
  have e : ((b + (a + c)) % 65521) = (b + (a + c) % 65521) % 65521 := by omega
  rw [e]
  exact blk_set (blk_set hb 0 _) 1 _
def adlerTo (s : ByteArray) (p : Int × Int) : Nat → Int × Int
 | 0 => p
 | k + 1 => adlerGrow (adlerTo s p k) (bt s k)
def adlerIn (p : Int × Int) : Prop := 0 ≤ p.1 ∧ p.1 < 65536 ∧ 0 ≤ p.2 ∧ p.2 < 65536
theorem adlerTo_in (s : ByteArray) {p : Int × Int} (h : adlerIn p) (k : Nat) : adlerIn (adlerTo s p k) := by
 cases k with
 | zero => exact h
 | succ k => unfold adlerIn adlerTo adlerGrow; simp only; omega
theorem adler_grow_u8 (g : Nat) (a b : Int) (c : UInt8) (w : World) (hb : w.heap[g]? = some (.cells #[.int .i64 a, .int .i64 b] 157 (0, 0)))
  (hi : adlerIn (a, b)) :
  Calls Tryz.prog 160 #[.pointer (some ⟨g, 0, none⟩), .int .u8 (c.toNat : Int)] w fun e w' => e = .returned (.tuple #[]) ∧ Fr w w' (· = g) ∧ 
   w'.heap[g]? = some (.cells #[.int .i64 (adlerGrow (a, b) c.toNat).1, .int .i64 (adlerGrow (a, b) c.toNat).2] 157 (0, 0)) := by
 have := c.toNat_lt
 exact adler_grow_calls g a b _ w hb hi.1 hi.2.1 hi.2.2.1 hi.2.2.2 (by omega) (by omega)
theorem adler_told_calls (a b : Int) (w : World) (hi : adlerIn (a, b)) :
  Calls Tryz.prog 161 #[.agg #[.int .i64 a, .int .i64 b]] w fun e w' => e = .returned (.int .i64 (b * 65536 + a)) ∧ Below w.heap.size w w' := by
 obtain ⟨h1, h2, h3, h4⟩ := hi
 simp only at h1 h2 h3 h4
 go_enter Tryz.func161, Tryz.ntmps161
 go_wp2
 go_ret
 exact ⟨rfl, (Below.refl _ _).alloc (Nat.le_refl _) _⟩
set_option maxHeartbeats 1000000 in
theorem adler_take_calls (g : Nat) (a b : Int) (s : ByteArray) (w : World) (hb : w.heap[g]? = some (.cells #[.int .i64 a, .int .i64 b] 157 (0, 0)))
  (hi : adlerIn (a, b)) (hs : s.size ≤ 140737488351232) :
  Calls Tryz.prog 134 #[.pointer (some ⟨g, 0, none⟩), .string s] w fun e w' => e = .returned (.int .i64 ((adlerTo s (a, b) s.size).2 * 65536 + (adlerTo s (a, b) s.size).1)) ∧ Fr w w' (· = g) := by
 go_enter Tryz.func134, Tryz.ntmps134
 go_wp2_with fail
 go_loopw [8] (fun i wr => ∃ k : Nat, k ≤ s.size ∧ i = .int .i64 k ∧ Aside0 (Fr w wr (· = g)) ∧ Aside0 (wr.heap[g]? = some (.cells #[.int .i64 (adlerTo s (a, b) k).1, .int .i64 (adlerTo s (a, b) k).2] 157 (0, 0)))) (fun i _ => s.size - (intOf i).toNat)
 case atStart => exact ⟨0, Nat.zero_le _, rfl, ⟨Fr.refl _ _⟩, ⟨hb⟩⟩
 case round =>
  obtain ⟨k, hk, rfl, HK, HBk⟩ := hrel
  have HI := adlerTo_in s hi k
  generalize he : adlerTo s (a, b) k = p at HBk HI
  obtain ⟨a1, b1⟩ := p
  have HE := Aside0.mk he
  clear he
  have h0 := blk_cell HBk.out 0
  have h1 := blk_cell HBk.out 1
  by_cases hlt : k < s.size
  ·go_wp2_with fail
   go_region_with (go_at_call 160; (with_reducible refine (adler_grow_u8 g a1 b1 _ _ (blk_drew HBk.out) HI).mono ?_); rintro e w' ⟨rfl, hk', hb'⟩)
   go_wp2
   go_roundw
   case rel =>
    refine ⟨k + 1, by omega, by go_num, ⟨HK.out.then_ hk'.of_drew⟩, ⟨?_⟩⟩
    have he : adlerTo s (a, b) (k + 1) = adlerGrow (a1, b1) (bt s k) := by rw [adlerTo, HE.out]
    rw [he, bt_nat s k hlt]
    exact hb'
   case measure => simp [intOf]; omega
  ·have hks : k = s.size := by omega
   subst hks
   go_wp2_with (go_at_call 161; (with_reducible refine (adler_told_calls a1 b1 _ HI).mono ?_); rintro e w' ⟨rfl, hbl⟩)
   go_ret
   rw [HE.out]
   exact ⟨rfl, HK.out.then_ (Fr.of_below hbl _)⟩
def adlerOf (p : Int × Int) (s : ByteArray) : Int := (adlerTo s p s.size).2 * 65536 + (adlerTo s p s.size).1
def adler_Sum.f (a0 : ByteArray) : Option Int := if a0.size ≤ 140737488351232 then some (adlerOf (1, 0) a0) else none
theorem adler_Sum.calls (a0 : ByteArray) (r : Int) (w : World) (h : adler_Sum.f a0 = some r) :
  Calls Tryz.prog 105 #[.string a0] w fun e w' => e = .returned (.int .i64 r) ∧ Below w.heap.size w w' := by
 unfold adler_Sum.f at h
 split at h
 ·rename_i hs
  injection h with h
  have HR := Aside0.mk h
  clear h
  go_enter Tryz.func105, Tryz.ntmps105
  go_wp2_with fail
  refine (adler_take_calls w.heap.size 1 0 a0 _ (blk_new w _) (by unfold adlerIn; omega) hs).mono ?_
  rintro e w' ⟨rfl, hf⟩
  go_wp2
  go_ret
  rw [← HR.out]
  exact ⟨rfl, (((Fr.refl w (· = w.heap.size)).alloc _).then_ hf).below (by rintro k rfl; omega) (Nat.le_refl _)⟩
 ·cases h
end Go.Proofs.YtghoifkaikddlaaGreat.Hand
