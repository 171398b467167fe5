/- Squeeze in plain numbers: how long what is told is; the page's examples. -/
import Derived.Test.YtfoicjlkbkjfjaaHand11j
namespace Go.Proofs.Ytfoicjlkbkjfjaa.Hand
open Go.RowKit Go.Proofs.YtfoicjlkbkjfjaaW.PrintWords Go.Proofs.YtfoicjlkbkjfjaaW.PrintLast Go.Proofs.YtfoicjlkbkjfjaaW.PrintMore Go.Proofs.Ytfoicjlkbkjfjaa.Num Go.Proofs.Ytfoicjlkbkjfjaa.Bits
set_option linter.unusedVariables false
set_option linter.unusedSimpArgs false
set_option maxRecDepth 100000
theorem sq1 : fixF ⟨#[97]⟩ = ⟨#[75, 4, 0]⟩ := by decide +kernel
theorem sq2 : fixF ⟨#[97, 97, 97, 97]⟩ = ⟨#[75, 4, 2, 0]⟩ := by decide +kernel
theorem sq3 : storeF ⟨#[]⟩ = ⟨#[1, 0, 0, 255, 255]⟩ := by decide +kernel
theorem sq4 : storeF ⟨#[97, 97, 97, 97]⟩ = ⟨#[1, 4, 0, 251, 255, 97, 97, 97, 97]⟩ := by decide +kernel
theorem unflat_length : ∀ (k : Nat) (L : List Int), (unflat k L).length = k
  | 0, _ => rfl
  | k + 1, L => by rw [unflat, List.length_cons, unflat_length k]
theorem textL_size (L : List Int) : (textL L).size = (L.length + 7) / 8 := by
  unfold textL
  rw [strOfNums_size, unflat_length]
theorem alignL_length (L : List Int) : (alignL L).length = L.length + (8 - L.length % 8) % 8 := by
  unfold alignL
  rw [List.length_append, List.length_replicate]
theorem headB_length (s : ByteArray) (L : List Int) (h : L.length % 8 = 0) : (headB s L).length = L.length + 40 := by
  unfold headB
  simp only [List.length_append, bitsN_length, alignL_length]
  omega
def blocksN (n : Nat) : Nat := max 1 ((n + 65534) / 65535)
theorem storeB_length : ∀ (k : Nat) (s : ByteArray) (L : List Int), s.size < 65535 * k → L.length % 8 = 0 → (storeB k s L).length = L.length + 40 * blocksN s.size + 8 * s.size
  | 0, s, L, h, _ => absurd h (by omega)
  | k + 1, s, L, h, hL => by
    rw [storeB]
    have hh := headB_length s L hL
    split
    · rename_i h1
      rw [List.length_append, flat_length, bytesOf_length, hh]
      unfold blocksN
      omega
    · rename_i h1
      have e0 : (s.extract 0 65535).size = 65535 := by rw [ByteArray.size_extract]; omega
      have e1 : (s.extract 65535 s.size).size = s.size - 65535 := by rw [ByteArray.size_extract]; omega
      rw [storeB_length k _ _ (by rw [e1]; omega) (by rw [List.length_append, flat_length, bytesOf_length, hh, e0]; omega), List.length_append, flat_length, bytesOf_length, hh, e0, e1]
      unfold blocksN
      omega
theorem storeF_size (s : ByteArray) : (storeF s).size = s.size + 5 * blocksN s.size := by
  unfold storeF
  rw [textL_size, storeB_length _ _ _ (by omega) (by rfl)]
  simp only [List.length_nil]
  omega
/-! A text of one byte alone. -/
theorem alk_const (s : ByteArray) (c : Int) (hc : ∀ i : Nat, i < s.size → bt s (i : Int) = c) : ∀ k j at_, j ≤ at_ → alk s k j at_ = min k (s.size - at_)
  | 0, _, _, _ => by rw [alk]; omega
  | k + 1, j, at_, h => by
    rw [alk]
    by_cases h1 : at_ < s.size
    · rw [if_pos ⟨h1, by rw [hc at_ h1, hc j (by omega)]⟩, alk_const s c hc k (j + 1) (at_ + 1) (by omega)]
      omega
    · rw [if_neg (fun hh => h1 hh.1)]
      omega
theorem goL_ge (s : ByteArray) (at_ : Nat) : ∀ jj l b, l ≤ (goL s at_ jj l b).1
  | 0, l, b => Nat.le_refl _
  | j + 1, l, b => by
    rw [goL]
    split
    · split
      · exact Nat.le_refl _
      · split
        · exact goL_ge s at_ j l b
        · split
          · show l ≤ alk s 258 j at_; omega
          · exact Nat.le_trans (by omega) (goL_ge s at_ j _ _)
    · exact goL_ge s at_ j l b
theorem find_const (s : ByteArray) (c : Int) (hc : ∀ i : Nat, i < s.size → bt s (i : Int) = c) (a : Nat) (h1 : 1 ≤ a) (h3 : a + 3 ≤ s.size) : (findF s a).1 = min 258 (s.size - a) := by
  have hle := find_le s a (by omega)
  have hk : key3 s (a - 1) = key3 s a := by
    unfold key3
    rw [hc (a - 1) (by omega), hc (a - 1 + 1) (by omega), hc (a - 1 + 2) (by omega), hc a (by omega), hc (a + 1) (by omega), hc (a + 2) (by omega)]
  have hal := alk_const s c hc 258 (a - 1) a (by omega)
  have hge : alk s 258 (a - 1) a ≤ (findF s a).1 := by
    unfold findF
    rw [if_neg (by omega)]
    obtain ⟨j, rfl⟩ : ∃ j, a = j + 1 := ⟨a - 1, by omega⟩
    rw [Nat.add_sub_cancel] at hk hal ⊢
    rw [goL, if_pos hk, if_neg (by omega)]
    split
    · have := goL_ge s (j + 1) j 0 0; omega
    · split
      · exact Nat.le_refl _
      · exact goL_ge _ _ _ _ _
  omega
theorem fixG_lit (s : ByteArray) (a : Nat) (h : a < s.size) (hn : (findF s a).1 < 3) : (fixG s (s.size + 1 - a) a).length ≤ 9 + (fixG s (s.size + 1 - (a + 1)) (a + 1)).length := by
  rw [fixG_eq s a (by omega), if_pos h, if_pos hn, List.length_append]
  have := bt_byte s (a : Int)
  have := symB_le (bt s (a : Int)).toNat (by omega)
  omega
theorem fixG_cpy (s : ByteArray) (a n : Nat) (h : a < s.size) (hn : (findF s a).1 = n) (h3 : 3 ≤ n) : (fixG s (s.size + 1 - a) a).length ≤ 36 + (fixG s (s.size + 1 - (a + n)) (a + n)).length := by
  subst hn
  have h1 := find_le s a (by omega)
  have h2 := find_ok s a (by omega)
  rw [fixG_eq s a (by omega), if_pos h, if_neg (by omega), List.length_append]
  have := copyB_le (n := ((findF s a).1 : Int)) (back := ((findF s a).2 : Int)) (by omega) (by omega)
  omega
theorem fixG_end (s : ByteArray) : (fixG s (s.size + 1 - s.size) s.size).length ≤ 9 := by
  rw [fixG_eq s s.size (Nat.le_refl _), if_neg (by omega)]
  exact symB_le 256 (by omega)
theorem find_short (s : ByteArray) (a : Nat) (h : s.size < a + 3) : (findF s a).1 < 3 := by
  unfold findF
  rw [if_pos h]
  decide
theorem fix_const (s : ByteArray) (c : Int) (hc : ∀ i : Nat, i < s.size → bt s (i : Int) = c) (h1 : 300 ≤ s.size) (h2 : s.size ≤ 555) : (fixF s).size ≤ 17 := by
  unfold fixF
  rw [textL_size]
  have e0 : (findF s 0).1 < 3 := by
    unfold findF
    rw [if_neg (by omega), goL]
    decide
  have g0 := fixG_lit s 0 (by omega) e0
  have g1 := fixG_cpy s 1 258 (by omega) (by rw [find_const s c hc 1 (by omega) (by omega)]; omega) (by omega)
  have g2 := fixG_cpy s 259 (min 258 (s.size - 259)) (by omega) (by rw [find_const s c hc 259 (by omega) (by omega)]) (by omega)
  have gE := fixG_end s
  have hlen : (fixBits s).length = 3 + (fixG s (s.size + 1) 0).length := by
    unfold fixBits
    simp only [List.length_append, bitsN_length]
  rw [hlen]
  rw [Nat.zero_add] at g0
  rw [Nat.sub_zero] at g0
  obtain ⟨a, ha⟩ : ∃ a, a = 259 + min 258 (s.size - 259) := ⟨_, rfl⟩
  rw [← ha] at g2
  have gL : (fixG s (s.size + 1 - a) a).length ≤ 45 := by
    by_cases hr : a = s.size
    · rw [hr]; omega
    · by_cases h3 : a + 3 ≤ s.size
      · have g3 := fixG_cpy s a (s.size - a) (by omega) (by rw [find_const s c hc a (by omega) (by omega)]; omega) (by omega)
        rw [show a + (s.size - a) = s.size by omega] at g3
        omega
      · have g3 := fixG_lit s a (by omega) (find_short s a (by omega))
        by_cases h4 : a + 1 = s.size
        · rw [h4] at g3; omega
        · have g4 := fixG_lit s (a + 1) (by omega) (find_short s (a + 1) (by omega))
          rw [show a + 1 + 1 = s.size by omega] at g4
          omega
  rw [show 1 + 258 = 259 from rfl] at g1
  omega
end Go.Proofs.Ytfoicjlkbkjfjaa.Hand
