/- Squeeze in plain numbers: the longest piece that stood ahead, the fixed codes' bits, the text of bits. -/
import Derived.Test.YtfoicjlkbkjfjaaCodesR
import Derived.Test.YtfoicjlkbkjfjaaInf
import Derived.Handy
namespace Go.Proofs.Ytfoicjlkbkjfjaa.Hand
open Go.RowKit Go.Proofs.YtfoicjlkbkjfjaaW.PrintWords Go.Proofs.YtfoicjlkbkjfjaaW.PrintLast Go.Proofs.YtfoicjlkbkjfjaaW.PrintMore Go.Proofs.Ytfoicjlkbkjfjaa.Num Go.Proofs.Ytfoicjlkbkjfjaa.Bits
set_option linter.unusedVariables false
set_option linter.unusedSimpArgs false
/-! The text of bits, reckoned. -/
def numB : List Int → Int
  | [] => 0
  | b :: t => b + 2 * numB t
def unflat : Nat → List Int → List Int
  | 0, _ => []
  | k + 1, L => numB (L.take 8) :: unflat k (L.drop 8)
def textL (L : List Int) : ByteArray := strOfNums (unflat ((L.length + 7) / 8) (L ++ List.replicate ((8 - L.length % 8) % 8) 0))
theorem numB_bits : ∀ (w : Nat) (y : Int), numB (bitsN y w) = y % 2 ^ w
  | 0, y => by rw [bitsN, numB, Int.pow_zero, Int.emod_one]
  | w + 1, y => by
    rw [bitsN, numB, numB_bits w, Int.pow_succ, Int.mul_comm (2 ^ w) 2]
    have h := Int.emod_add_mul_ediv y 2
    have h1 := Int.emod_add_mul_ediv (y / 2) (2 ^ w)
    have h2 := Int.emod_add_mul_ediv y (2 * 2 ^ w)
    have h3 : y / (2 * 2 ^ w) = y / 2 / 2 ^ w := by rw [Int.ediv_ediv_of_nonneg (by decide)]
    rw [h3, Int.mul_assoc] at h2
    omega
theorem unflat_flat : ∀ ys : List Int, (∀ y ∈ ys, 0 ≤ y ∧ y < 256) → unflat ys.length (flat ys) = ys
  | [], _ => rfl
  | y :: ys, h => by
    have h0 := h y (List.mem_cons_self ..)
    rw [List.length_cons, unflat, flat_cons, List.take_append_of_le_length (by rw [bitsN_length]; omega), List.drop_append_of_le_length (by rw [bitsN_length]; omega), List.take_of_length_le (by rw [bitsN_length]; omega), List.drop_of_length_le (by rw [bitsN_length]; omega), List.nil_append, unflat_flat ys (fun z hz => h z (List.mem_cons_of_mem _ hz)), numB_bits]
    congr 1
    exact Int.emod_eq_of_lt h0.1 h0.2
theorem TextOf.textL {L : List Int} {t : ByteArray} (h : TextOf L t) : t = textL L := by
  unfold Hand.textL
  rw [← h.eq, ← h.size, ← bytesOf_length, unflat_flat _ (bytes_range t)]
  exact (strOfNums_bytesOf t).symm
/-! The spans' codes. -/
def codeG : List (Int × Nat) → Int → Nat
  | [], _ => 0
  | x :: t, n => if x.1 ≤ n then codeG t n + 1 else 0
def codeF (T : List (Int × Nat)) (n : Int) : Nat := codeG (T.drop 1) n
theorem codeG_le : ∀ (T : List (Int × Nat)) (n : Int), codeG T n ≤ T.length
  | [], _ => Nat.le_refl _
  | x :: t, n => by rw [codeG]; split; have := codeG_le t n; simp; exact this; exact Nat.zero_le _
theorem codeF_lt (T : List (Int × Nat)) (n : Int) (h : 0 < T.length) : codeF T n < T.length := by
  have := codeG_le (T.drop 1) n
  rw [List.length_drop] at this
  unfold codeF; omega
theorem codeG_step (T : List (Int × Nat)) (n : Int) (k : Nat) (h : k + 1 < T.length) : codeG (T.drop (k + 1)) n = if (T.getD (k + 1) (0, 0)).1 ≤ n then codeG (T.drop (k + 2)) n + 1 else 0 := by
  rw [List.drop_eq_getElem_cons h, codeG, List.getD_eq_getElem?_getD, List.getElem?_eq_getElem h, Option.getD_some]
theorem codeG_spec : ∀ (T : List (Int × Nat)) (x : Int × Nat) (n : Int), x.1 ≤ n → ((x :: T).getD (codeG T n) (0, 0)).1 ≤ n ∧ (codeG T n < T.length → n < ((x :: T).getD (codeG T n + 1) (0, 0)).1)
  | [], x, n, h => ⟨h, fun h => absurd h (Nat.lt_irrefl _)⟩
  | y :: t, x, n, h => by
    rw [codeG]
    by_cases hy : y.1 ≤ n
    · rw [if_pos hy]
      have := codeG_spec t y n hy
      exact ⟨this.1, fun hh => this.2 (by simpa using hh)⟩
    · rw [if_neg hy]
      exact ⟨h, fun _ => by show n < y.1; omega⟩
theorem lens_ok {n : Int} (h : 3 ≤ n) (h2 : n ≤ 258) : codeF lensT n < 29 ∧ 0 ≤ n - (lensT.getD (codeF lensT n) (0, 0)).1 ∧ n - (lensT.getD (codeF lensT n) (0, 0)).1 < 2 ^ (lensT.getD (codeF lensT n) (0, 0)).2 ∧ (lensT.getD (codeF lensT n) (0, 0)).2 ≤ 5 := by
  have hs := codeG_spec (lensT.drop 1) (3, 0) n h
  have hl : codeF lensT n < 29 := codeF_lt lensT n (by decide)
  have e : (((3, 0) :: lensT.drop 1 : List (Int × Nat))) = lensT := rfl
  rw [e] at hs
  have ht : ∀ k, k < 28 → (lensT.getD (k + 1) (0, 0)).1 ≤ (lensT.getD k (0, 0)).1 + 2 ^ (lensT.getD k (0, 0)).2 := by decide +kernel
  have hb : ∀ k, k < 29 → (lensT.getD k (0, 0)).2 ≤ 5 := by decide +kernel
  refine ⟨hl, by have := hs.1; show 0 ≤ n - (lensT.getD (codeG (lensT.drop 1) n) (0, 0)).1; omega, ?_, hb _ hl⟩
  by_cases h28 : codeF lensT n < 28
  · have h1 := hs.2 h28
    have h2 := ht _ h28
    unfold codeF at h2 ⊢
    omega
  · have : codeF lensT n = 28 := by omega
    rw [this]
    show n - 258 < 2 ^ 0
    omega
theorem dist_ok {n : Int} (h : 1 ≤ n) (h2 : n ≤ 32768) : codeF distT n < 30 ∧ 0 ≤ n - (distT.getD (codeF distT n) (0, 0)).1 ∧ n - (distT.getD (codeF distT n) (0, 0)).1 < 2 ^ (distT.getD (codeF distT n) (0, 0)).2 ∧ (distT.getD (codeF distT n) (0, 0)).2 ≤ 13 := by
  have hs := codeG_spec (distT.drop 1) (1, 0) n h
  have hl : codeF distT n < 30 := codeF_lt distT n (by decide)
  have e : (((1, 0) :: distT.drop 1 : List (Int × Nat))) = distT := rfl
  rw [e] at hs
  have ht : ∀ k, k < 29 → (distT.getD (k + 1) (0, 0)).1 ≤ (distT.getD k (0, 0)).1 + 2 ^ (distT.getD k (0, 0)).2 := by decide +kernel
  have hb : ∀ k, k < 30 → (distT.getD k (0, 0)).2 ≤ 13 := by decide +kernel
  refine ⟨hl, by have := hs.1; show 0 ≤ n - (distT.getD (codeG (distT.drop 1) n) (0, 0)).1; omega, ?_, hb _ hl⟩
  by_cases h28 : codeF distT n < 29
  · have h1 := hs.2 h28
    have h2 := ht _ h28
    unfold codeF at h2 ⊢
    omega
  · have : codeF distT n = 29 := by omega
    rw [this]
    show n - 24577 < 2 ^ 13
    omega
/-! What stood ahead. -/
theorem bt_byte (s : ByteArray) (i : Int) : 0 ≤ bt s i ∧ bt s i < 256 := by
  unfold bt
  split
  · rename_i h; have := (s[i.toNat]'h).toNat_lt; omega
  · omega
/-- How many bytes stand at j as at at, so many at most. -/
def alk (s : ByteArray) : Nat → Nat → Nat → Nat
  | 0, _, _ => 0
  | k + 1, j, at_ => if at_ < s.size ∧ bt s at_ = bt s j then alk s k (j + 1) (at_ + 1) + 1 else 0
theorem alk_le (s : ByteArray) : ∀ k j at_, alk s k j at_ ≤ k
  | 0, _, _ => Nat.le_refl _
  | k + 1, j, at_ => by rw [alk]; split; have := alk_le s k (j + 1) (at_ + 1); omega; exact Nat.zero_le _
theorem alk_size (s : ByteArray) : ∀ k j at_, at_ ≤ s.size → at_ + alk s k j at_ ≤ s.size
  | 0, _, _, h => h
  | k + 1, j, at_, h => by rw [alk]; split; have := alk_size s k (j + 1) (at_ + 1) (by omega); omega; exact h
theorem alk_same (s : ByteArray) : ∀ k j at_ i, i < alk s k j at_ → bt s ((at_ + i : Nat) : Int) = bt s ((j + i : Nat) : Int)
  | 0, _, _, i, h => absurd h (Nat.not_lt_zero _)
  | k + 1, j, at_, i, h => by
    rw [alk] at h
    split at h
    · rename_i hc
      cases i with
      | zero => exact hc.2
      | succ i =>
        have := alk_same s k (j + 1) (at_ + 1) i (by omega)
        rw [show at_ + (i + 1) = at_ + 1 + i by omega, show j + (i + 1) = j + 1 + i by omega]
        exact this
    · exact absurd h (Nat.not_lt_zero _)
def key3 (s : ByteArray) (i : Nat) : Int := bt s i * 65536 + bt s ((i + 1 : Nat) : Int) * 256 + bt s ((i + 2 : Nat) : Int)
/-- The longest of the places below jj. -/
def goL (s : ByteArray) (at_ : Nat) : Nat → Nat → Nat → Nat × Nat
  | 0, l, b => (l, b)
  | j + 1, l, b => if key3 s j = key3 s at_ then
      if 32768 < at_ - j then (l, b) else if alk s 258 j at_ ≤ l then goL s at_ j l b else if alk s 258 j at_ = 258 then (alk s 258 j at_, at_ - j) else goL s at_ j (alk s 258 j at_) (at_ - j)
    else goL s at_ j l b
def findF (s : ByteArray) (at_ : Nat) : Nat × Nat := if s.size < at_ + 3 then (0, 0) else goL s at_ at_ 0 0
/-- What was found stands there. -/
theorem goL_ok (s : ByteArray) (at_ : Nat) (hat : at_ ≤ s.size) : ∀ jj l b, jj ≤ at_ → (l = 0 ∨ (1 ≤ b ∧ b ≤ at_ ∧ b ≤ 32768 ∧ l = alk s 258 (at_ - b) at_)) →
    (goL s at_ jj l b).1 = 0 ∨ (1 ≤ (goL s at_ jj l b).2 ∧ (goL s at_ jj l b).2 ≤ at_ ∧ (goL s at_ jj l b).2 ≤ 32768 ∧ (goL s at_ jj l b).1 = alk s 258 (at_ - (goL s at_ jj l b).2) at_)
  | 0, l, b, _, h => h
  | j + 1, l, b, hj, h => by
    rw [goL]
    split
    · split
      · exact h
      · rename_i hfar
        split
        · exact goL_ok s at_ hat j l b (by omega) h
        · split
          · exact .inr ⟨by show 1 ≤ at_ - j; omega, by show at_ - j ≤ at_; omega, by show at_ - j ≤ 32768; omega, by show alk s 258 j at_ = alk s 258 (at_ - (at_ - j)) at_; rw [show at_ - (at_ - j) = j by omega]⟩
          · exact goL_ok s at_ hat j _ _ (by omega) (.inr ⟨by omega, by omega, by omega, by rw [show at_ - (at_ - j) = j by omega]⟩)
    · exact goL_ok s at_ hat j l b (by omega) h
theorem find_ok (s : ByteArray) (at_ : Nat) (hat : at_ ≤ s.size) : (findF s at_).1 = 0 ∨ (1 ≤ (findF s at_).2 ∧ (findF s at_).2 ≤ at_ ∧ (findF s at_).2 ≤ 32768 ∧ (findF s at_).1 = alk s 258 (at_ - (findF s at_).2) at_) := by
  unfold findF
  split
  · exact .inl rfl
  · exact goL_ok s at_ hat at_ 0 0 (Nat.le_refl _) (.inl rfl)
theorem find_le (s : ByteArray) (at_ : Nat) (hat : at_ ≤ s.size) : (findF s at_).1 ≤ 258 ∧ at_ + (findF s at_).1 ≤ s.size := by
  rcases find_ok s at_ hat with h | ⟨_, _, _, h⟩
  · rw [h]; omega
  · rw [h]; exact ⟨alk_le _ _ _ _, alk_size _ _ _ _ hat⟩
/-! The bits of the fixed codes. -/
def symB (l : List Int) (k : Nat) : List Int := revB ((codesF l).getD k 0) (l.getD k 0).toNat
def copyB (n back : Int) : List Int :=
  symB fixLit (257 + codeF lensT n) ++ bitsN (n - (lensT.getD (codeF lensT n) (0, 0)).1) (lensT.getD (codeF lensT n) (0, 0)).2 ++ (symB fixDist (codeF distT back) ++ bitsN (back - (distT.getD (codeF distT back) (0, 0)).1) (distT.getD (codeF distT back) (0, 0)).2)
def fixG (s : ByteArray) : Nat → Nat → List Int
  | 0, _ => []
  | k + 1, at_ => if at_ < s.size then
      if (findF s at_).1 < 3 then symB fixLit (bt s at_).toNat ++ fixG s k (at_ + 1) else copyB (findF s at_).1 (findF s at_).2 ++ fixG s k (at_ + (findF s at_).1)
    else symB fixLit 256
def fixBits (s : ByteArray) : List Int := bitsN 1 1 ++ bitsN 1 2 ++ fixG s (s.size + 1) 0
def fixF (s : ByteArray) : ByteArray := textL (fixBits s)
/-- More rounds than are needed turn nothing. -/
theorem fixG_more (s : ByteArray) : ∀ k k' at_, at_ ≤ s.size → s.size < at_ + k → s.size < at_ + k' → fixG s k at_ = fixG s k' at_
  | 0, _, at_, h, h1, h2 => by omega
  | _ + 1, 0, at_, h, h1, h2 => by omega
  | k + 1, k' + 1, at_, h, h1, h2 => by
    rw [fixG, fixG]
    split
    · have hf := (find_le s at_ h).2
      split
      · rw [fixG_more s k k' (at_ + 1) (by omega) (by omega) (by omega)]
      · rw [fixG_more s k k' _ hf (by omega) (by omega)]
    · rfl
/-! Bytes as they are. -/
def headB (s : ByteArray) (L : List Int) : List Int :=
  alignL (L ++ bitsN (if s.size ≤ 65535 then 1 else 0) 1 ++ bitsN 0 2) ++ bitsN ((min s.size 65535 : Nat) : Int) 16 ++ bitsN (65535 - (min s.size 65535 : Nat) : Int) 16
def storeB : Nat → ByteArray → List Int → List Int
  | 0, _, L => L
  | k + 1, s, L => if s.size ≤ 65535 then headB s L ++ flat (bytesOf s) else storeB k (s.extract 65535 s.size) (headB s L ++ flat (bytesOf (s.extract 0 65535)))
def storeF (s : ByteArray) : ByteArray := textL (storeB (s.size / 65535 + 1) s [])
def bestF (s : ByteArray) : ByteArray := if (fixF s).size < (storeF s).size then fixF s else storeF s
end Go.Proofs.Ytfoicjlkbkjfjaa.Hand
