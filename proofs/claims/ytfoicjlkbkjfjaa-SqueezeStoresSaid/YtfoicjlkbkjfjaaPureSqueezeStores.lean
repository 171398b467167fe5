/- Any bytes (at most 70000) are deflated as they are just as the document says; conditions: none beyond the statement's own. -/
import Derived.Test.YtfoicjlkbkjfjaaP11tx1
import Derived.Test.YtfoicjlkbkjfjaaLem11
namespace Go.Proofs.Ytfoicjlkbkjfjaa.Pure
open Go.RowKit Go.Proofs.Ytfoicjlkbkjfjaa.P11t Go.Proofs.YtfoicjlkbkjfjaaW.PrintWords Go.Proofs.YtfoicjlkbkjfjaaW.PrintLast Go.Proofs.Ytfoicjlkbkjfjaa.Hand Go.Proofs.Ytfoicjlkbkjfjaa.Num Go.Proofs.Ytfoicjlkbkjfjaa.Bits
theorem fixed_f (s : ByteArray) (hs : s.size ≤ 100000) : squeeze_Fixed.f s = some (fixF s) := by unfold squeeze_Fixed.f; rw [if_pos hs]
theorem stored_f (s : ByteArray) (hs : s.size ≤ 100000) : squeeze_Stored.f s = some (storeF s) := by unfold squeeze_Stored.f; rw [if_pos hs]
theorem rstored_f (s : ByteArray) (hs : s.size ≤ 100000) : binderyref11_Stored.f s = some (refStoreF s) := by unfold binderyref11_Stored.f; rw [if_pos hs]
theorem best_f (s : ByteArray) (hs : s.size ≤ 100000) : squeeze_Best.f s = some (bestF s) := by
  unfold squeeze_Best.f bestF
  rw [fixed_f s hs, stored_f s hs]
  simp only [Option.bind_some]
  by_cases h : (fixF s).size < (storeF s).size
  · rw [if_pos (by omega), if_pos h]
  · rw [if_neg (by omega), if_neg h]
theorem squeezed_f : binderylaw11_squeezed.f = some true := by
  have hb : bestF ⟨#[97, 97, 97, 97]⟩ = ⟨#[75, 4, 2, 0]⟩ := by
    unfold bestF
    rw [sq2, sq4]
    rfl
  unfold binderylaw11_squeezed.f
  rw [fixed_f _ (by decide), fixed_f _ (by decide), stored_f _ (by decide), best_f _ (by decide), sq1, sq2, sq3, hb]
  simp only [Option.bind_some, ByteArray.toList_eq]
  rfl
theorem flat_app (a b : List Int) : flat (a ++ b) = flat a ++ flat b := by simp [flat]
theorem headR_range (n l : Int) (h0 : 0 ≤ n) (h1 : n ≤ 65535) (hl : 0 ≤ l ∧ l < 256) : ∀ x ∈ headR n l, 0 ≤ x ∧ x < 256 := by
  intro x hx
  simp only [headR, List.mem_cons, List.not_mem_nil, or_false] at hx
  omega
theorem bits16 (n : Int) (h0 : 0 ≤ n) (_h1 : n ≤ 65535) : bitsN n 16 = bitsN (n % 256) 8 ++ bitsN (n / 256) 8 := by
  rw [show (16 : Nat) = 8 + 8 from rfl, bitsN_add n h0, show (256 : Int) = 2 ^ 8 from rfl, bitsN_mod n h0]
theorem flat_headR (n l : Int) (h0 : 0 ≤ n) (h1 : n ≤ 65535) : flat (headR n l) = bitsN l 8 ++ (bitsN n 16 ++ bitsN (65535 - n) 16) := by
  rw [bits16 n h0 h1, bits16 (65535 - n) (by omega) (by omega)]
  simp only [headR, flat_cons, List.append_assoc]
  simp [flat]
theorem head_flat (s : ByteArray) (o : List Int) (l : Int) (n : Nat) (hl : l = if s.size ≤ 65535 then 1 else 0) (hn : n = min s.size 65535) : headB s (flat o) = flat (o ++ headR n l) := by
  have h8 : (flat o ++ bitsN l 1 ++ bitsN 0 2).length = 8 * o.length + 3 := by rw [List.length_append, List.length_append, flat_length, bitsN_length, bitsN_length]
  unfold headB alignL
  rw [← hl, ← hn, h8, flat_app, flat_headR _ _ (by omega) (by omega), show (8 - (8 * o.length + 3) % 8) % 8 = 5 by omega]
  have hp : bitsN l 1 ++ (bitsN 0 2 ++ List.replicate 5 0) = bitsN l 8 := by
    rw [bitsN_zero, List.replicate_append_replicate, bitsN_pad l 1 (by rw [hl]; split <;> decide) (by rw [hl]; split <;> decide)]
  rw [← hp]
  simp only [List.append_assoc]
theorem store_ref : ∀ (k : Nat) (s : ByteArray) (o : List Int), s.size < 65535 * k → (∀ x ∈ o, 0 ≤ x ∧ x < 256) → storeB k s (flat o) = flat (refB k s o) ∧ ∀ x ∈ refB k s o, 0 ≤ x ∧ x < 256
  | 0, s, o, h, _ => absurd h (by omega)
  | k + 1, s, o, h, ho => by
    rw [storeB, refB]
    split
    · rename_i h1
      rw [head_flat s o 1 s.size (by rw [if_pos h1]) (by omega), ← flat_app]
      refine ⟨rfl, fun x hx => ?_⟩
      rcases List.mem_append.1 hx with hx | hx
      · rcases List.mem_append.1 hx with hx | hx
        · exact ho x hx
        · exact headR_range _ _ (by omega) (by omega) (by decide) x hx
      · exact bytes_range s x hx
    · rename_i h1
      rw [head_flat s o 0 65535 (by rw [if_neg h1]) (by omega), ← flat_app]
      refine store_ref k _ _ (by rw [ByteArray.size_extract]; omega) (fun x hx => ?_)
      rcases List.mem_append.1 hx with hx | hx
      · rcases List.mem_append.1 hx with hx | hx
        · exact ho x hx
        · exact headR_range 65535 0 (by omega) (by omega) (by decide) x hx
      · exact bytes_range _ x hx
theorem textL_flat (ys : List Int) (h : ∀ y ∈ ys, 0 ≤ y ∧ y < 256) : textL (flat ys) = strOfNums ys := by
  unfold textL
  rw [flat_length, show (8 * ys.length + 7) / 8 = ys.length by omega, show (8 - 8 * ys.length % 8) % 8 = 0 by omega, List.replicate_zero, List.append_nil, unflat_flat ys h]
theorem store_same (s : ByteArray) : storeF s = refStoreF s := by
  have h := store_ref (s.size / 65535 + 1) s [] (by omega) (fun x hx => by cases hx)
  unfold storeF refStoreF
  rw [show storeB (s.size / 65535 + 1) s [] = storeB (s.size / 65535 + 1) s (flat []) from rfl, h.1, textL_flat _ h.2]
theorem SqueezeStores : binderylaw11_SqueezeStores.Pure := by
  intro s hs
  unfold binderylaw11_SqueezeStores.f
  by_cases h0 : (s.size : Int) > 70000
  · rw [if_pos h0, squeezed_f]; rfl
  · rw [if_neg h0, stored_f s (by omega), rstored_f s (by omega)]
    simp only [Option.bind_some]
    rw [if_pos (by rw [store_same]), squeezed_f]; rfl
end Go.Proofs.Ytfoicjlkbkjfjaa.Pure
