/- Layer 8: what the document's own functions tell, and the reader's contract at any question. -/
import Derived.Test.YtbgdadehjnifeaaGreatHand08p
import Derived.Test.YtbgdadehjnifeaaGreatP08x1
namespace Go.Proofs.YtbgdadehjnifeaaGreat.Hand
open Go.RowKit Go.Proofs.YtbgdadehjnifeaaGreatW.PrintWords Go.Proofs.YtbgdadehjnifeaaGreatW.PrintLast Go.Proofs.YtbgdadehjnifeaaGreat.Num Go.Proofs.YtbgdadehjnifeaaGreat.Bits Go.Proofs.YtbgdadehjnifeaaGreat.P08
set_option linter.unusedVariables false
theorem bit_f (s : ByteArray) (i : Nat) (hi : i < 8 * s.size) (hs : s.size ≤ 1000000) (k : Nat) (hk : 8 ≤ k) : binderyref08_Bit.f k s i = some (bitA s i) := by
 have hb := bt_range s ((i / 8 : Nat) : Int)
 have hp := pow_pos' (i % 8)
 have hp8 := pow_le (show i % 8 ≤ 8 by omega)
 unfold binderyref08_Bit.f
 have e1 : Int.tdiv (i : Int) 8 = ((i / 8 : Nat) : Int) := (td _ (by omega)).trans (by omega)
 have e2 : Int.tmod (i : Int) 8 = ((i % 8 : Nat) : Int) := (tm _ (by omega)).trans (by omega)
 rw [e1, e2, w64 (x := ((i / 8 : Nat) : Int)) (by omega) (by omega), if_pos (by omega), if_pos (by omega), power_f (i % 8) (by omega) k (by omega), Option.bind_some, if_neg (by omega), w64 (x := bt s _) (by omega) (by omega), td _ hb.1]
 have h1 : 0 ≤ bt s ((i / 8 : Nat) : Int) / 2 ^ (i % 8) := Int.ediv_nonneg hb.1 (Int.le_of_lt hp)
 have h2 : bt s ((i / 8 : Nat) : Int) / 2 ^ (i % 8) ≤ bt s ((i / 8 : Nat) : Int) := Int.ediv_le_self _ hb.1
 rw [w64 (by omega) (by omega), tm _ h1]
 rfl
theorem val_head (s : ByteArray) (p m : Nat) : val s p (m + 1) = bitA s p + 2 * val s (p + 1) m := by
 rw [Nat.add_comm m 1, val_add]
 simp [val]
theorem get_l (s : ByteArray) (hs : s.size ≤ 1000000) (p w : Nat) (hw : w ≤ 16) (hp : p + w ≤ 8 * s.size) : ∀ (i : Nat), i ≤ w →
  Ev (fun k => binderyref08_Get.l0 k s p w (val s (p + i) (w - i)) ((i : Int) - 1)) (val s p w, ((p + w : Nat) : Int), 0)
 | 0, hi => ev_now fun k => by
  simp only [binderyref08_Get.l0]
  rw [if_neg (by omega), w64 (by omega) (by omega)]
  simp
 | i + 1, hi => by
  obtain ⟨K, h⟩ := get_l s hs p w hw hp i (by omega)
  have hv := val_range s (p + (i + 1)) (w - (i + 1))
  have hp16 := pow_le (show w - (i + 1) ≤ 16 by omega)
  have hb := bitA_range s (p + i)
  refine ⟨K + 10, fun k hk => ?_⟩
  obtain ⟨k, rfl⟩ : ∃ m, k = m + 1 := ⟨k - 1, by omega⟩
  have h := h k (by omega)
  dsimp only at h ⊢
  simp only [binderyref08_Get.l0]
  have e1 : ((i + 1 : Nat) : Int) - 1 = (i : Int) := by omega
  have e2 : (p : Int) + (i : Int) = ((p + i : Nat) : Int) := by omega
  rw [e1, if_pos (by omega), e2, w64 (x := ((p + i : Nat) : Int)) (by omega) (by omega), bit_f s (p + i) (by omega) hs k (by omega), Option.bind_some, w64 (x := 2 * val s (p + (i + 1)) (w - (i + 1))) (by omega) (by omega), w64 (x := 2 * val s (p + (i + 1)) (w - (i + 1)) + bitA s (p + i)) (by omega) (by omega), w64 (by omega) (by omega)]
  rw [show w - i = (w - (i + 1)) + 1 by omega, val_head] at h
  rw [show 2 * val s (p + (i + 1)) (w - (i + 1)) + bitA s (p + i) = bitA s (p + i) + 2 * val s (p + i + 1) (w - (i + 1)) by rw [Nat.add_assoc]; omega]
  exact h
theorem whole_f (p : Nat) (hp : p ≤ 8000000) : binderyref08_Whole.f (p : Int) = some ((8 * rdAt p : Nat) : Int) := by
 unfold binderyref08_Whole.f rdAt
 rw [w64 (x := (p : Int) + 7) (by omega) (by omega), td _ (by omega), w64 (x := ((p : Int) + 7) / 8) (by omega) (by omega), w64 (by omega) (by omega)]
 congr 1; omega
end Go.Proofs.YtbgdadehjnifeaaGreat.Hand
