/- What is deflated (at most 5000 bytes), in whichever way, is told again, to its last byte; conditions: none beyond the statement's own. -/
import Derived.Test.YtfoicjlkbkjfjaaP11bx1
import Derived.Test.YtfoicjlkbkjfjaaLem11b
namespace Go.Proofs.Ytfoicjlkbkjfjaa.Pure
open Go.RowKit Go.Proofs.Ytfoicjlkbkjfjaa.P11b Go.Proofs.YtfoicjlkbkjfjaaW.PrintWords Go.Proofs.YtfoicjlkbkjfjaaW.PrintLast Go.Proofs.Ytfoicjlkbkjfjaa.Hand Go.Proofs.Ytfoicjlkbkjfjaa.Num Go.Proofs.Ytfoicjlkbkjfjaa.Bits
theorem fixed_f (s : ByteArray) (hs : s.size ≤ 100000) : squeeze_Fixed.f s = some (fixF s) := by unfold squeeze_Fixed.f; rw [if_pos hs]
theorem stored_f (s : ByteArray) (hs : s.size ≤ 100000) : squeeze_Stored.f s = some (storeF s) := by unfold squeeze_Stored.f; rw [if_pos hs]
theorem infl_f (s : ByteArray) (m : Int) (hs : s.size ≤ 1000000) (hm : m ≤ 10000000) : inflate_Inflate.f s m = some (inflF s m) := by
  unfold inflate_Inflate.f
  rw [if_pos ⟨hs, hm⟩]
theorem best_f (s : ByteArray) (hs : s.size ≤ 100000) : squeeze_Best.f s = some (bestF s) := by
  unfold squeeze_Best.f bestF
  rw [fixed_f s hs, stored_f s hs]
  simp only [Option.bind_some]
  by_cases h : (fixF s).size < (storeF s).size
  · rw [if_pos (by omega), if_pos h]
  · rw [if_neg (by omega), if_neg h]
theorem squeezed_f : binderylaw11_squeezed.f = some true := by
  have hb : bestF ⟨#[97, 97, 97, 97]⟩ = ⟨#[75, 4, 2, 0]⟩ := by
    unfold bestF
    rw [sq2, sq4]
    rfl
  unfold binderylaw11_squeezed.f
  rw [fixed_f _ (by decide), fixed_f _ (by decide), stored_f _ (by decide), best_f _ (by decide), sq1, sq2, sq3, hb]
  simp only [Option.bind_some, ByteArray.toList_eq]
  rfl
theorem best_le (s : ByteArray) : (bestF s).size ≤ (storeF s).size := by
  unfold bestF
  split <;> omega
theorem fixG_le (s : ByteArray) : ∀ (e a : Nat), s.size - a ≤ e → a ≤ s.size → (fixG s (s.size + 1 - a) a).length ≤ 36 * (s.size - a) + 9
  | 0, a, he, ha => by
    obtain rfl : a = s.size := by omega
    have := fixG_end s
    omega
  | e + 1, a, he, ha => by
    by_cases hlt : a < s.size
    · by_cases h3 : (findF s a).1 < 3
      · have h1 := fixG_lit s a hlt h3
        have h2 := fixG_le s e (a + 1) (by omega) (by omega)
        omega
      · have h1 := fixG_cpy s a _ hlt rfl (by omega)
        have h4 := (find_le s a ha).2
        have h2 := fixG_le s e (a + (findF s a).1) (by omega) (by omega)
        omega
    · obtain rfl : a = s.size := by omega
      have := fixG_end s
      omega
theorem fix_le (s : ByteArray) (hs : s.size ≤ 5000) : (fixF s).size ≤ 100000 := by
  have h := fixG_le s s.size 0 (by omega) (by omega)
  have hlen : (fixBits s).length = 3 + (fixG s (s.size + 1) 0).length := by
    unfold fixBits
    simp only [List.length_append, bitsN_length]
  unfold fixF
  rw [textL_size, hlen]
  rw [Nat.sub_zero] at h
  omega
theorem store_le (s : ByteArray) (hs : s.size ≤ 5000) : (storeF s).size ≤ 100000 := by
  rw [storeF_size]
  unfold blocksN
  omega
theorem SqueezeBack : binderylaw11_SqueezeBack.Pure := by
  intro s hs
  unfold binderylaw11_SqueezeBack.f
  by_cases h0 : (s.size : Int) > 5000
  · rw [if_pos h0, squeezed_f]; rfl
  · have h1 := fix_le s (by omega)
    have h2 := store_le s (by omega)
    have h3 := best_le s
    rw [if_neg h0, stored_f s (by omega), Option.bind_some, fixed_f s (by omega), Option.bind_some, best_f s (by omega), Option.bind_some, infl_f _ _ (by omega) (by omega), Option.bind_some, infl_f _ _ (by omega) (by omega), Option.bind_some, infl_f _ _ (by omega) (by omega), Option.bind_some,
      store_back s (by omega), fix_back s (by omega), best_back s (by omega)]
    dsimp only
    rw [if_pos rfl, if_pos rfl, if_pos rfl, if_pos rfl, if_pos rfl, if_pos rfl, if_pos rfl, if_pos rfl, if_pos rfl, squeezed_f]
    rfl
end Go.Proofs.Ytfoicjlkbkjfjaa.Pure
