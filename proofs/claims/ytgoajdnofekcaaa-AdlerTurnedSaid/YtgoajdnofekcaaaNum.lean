/- Plain facts on wrapped numbers, rounds and bytes, for this seat's pure texts. -/
import Derived.Test.YtgoajdnofekcaaaHandBase
namespace Go.Proofs.Ytgoajdnofekcaaa.Num
open Go.RowKit Go.Proofs.YtgoajdnofekcaaaW.PrintWords Go.Proofs.YtgoajdnofekcaaaW.PrintLast
theorem w64 {x : Int} (h0 : -9223372036854775808 ≤ x) (h1 : x ≤ 9223372036854775807) : wrap64 x = x := by unfold wrap64; omega
theorem tm {a : Int} (b : Int) (h : 0 ≤ a) : Int.tmod a b = a % b := Int.tmod_eq_emod_of_nonneg h
theorem td {a : Int} (b : Int) (h : 0 ≤ a) : Int.tdiv a b = a / b := Int.tdiv_eq_ediv_of_nonneg h
theorem wf64 {x : Int} (h : (Lit.int .i64 x).wf = true) : -9223372036854775808 ≤ x ∧ x ≤ 9223372036854775807 := by
  simp [Lit.wf, IntKind.min, IntKind.max, IntKind.bits, IntKind.signed] at h
  exact h
theorem bt_cat_left (s t : ByteArray) (i : Int) (h : i.toNat < s.size) : bt (s ++ t) i = bt s i := by
  have h' : i.toNat < (s ++ t).size := by rw [ByteArray.size_append]; omega
  rw [← bt_at s i h, ← bt_at (s ++ t) i h', ByteArray.getElem_append_left h]
theorem bt_cat_right (s t : ByteArray) (i : Nat) (h : i < t.size) : bt (s ++ t) ((s.size + i : Nat) : Int) = bt t i := by
  have h' : s.size + i < (s ++ t).size := by rw [ByteArray.size_append]; omega
  simp only [bt, Int.toNat_natCast]
  rw [dif_pos h', dif_pos h, ByteArray.getElem_append_right (by omega)]
  simp
end Go.Proofs.Ytgoajdnofekcaaa.Num
