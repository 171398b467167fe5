/- Bits of bytes and of numbers: plain facts. -/
import Derived.Test.YtfoicjlkbkjfjaaNum
namespace Go.Proofs.Ytfoicjlkbkjfjaa.Bits
open Go.RowKit Go.Proofs.YtfoicjlkbkjfjaaW.PrintWords Go.Proofs.YtfoicjlkbkjfjaaW.PrintLast Go.Proofs.Ytfoicjlkbkjfjaa.Num
set_option linter.unusedVariables false

theorem pow_le2 {a b : Nat} (h : a ≤ b) : (2 : Int) ^ a ≤ 2 ^ b := by
  have := Nat.pow_le_pow_right (show 0 < 2 by decide) h
  exact_mod_cast this
/-- The bit of a place. -/
def bitA (s : ByteArray) (i : Nat) : Int := bt s ((i / 8 : Nat) : Int) / 2 ^ (i % 8) % 2
theorem bitA_range (s : ByteArray) (i : Nat) : 0 ≤ bitA s i ∧ bitA s i < 2 := by unfold bitA; omega
/-- The number of so many bits from a place on. -/
def val (s : ByteArray) (p : Nat) : Nat → Int
  | 0 => 0
  | n + 1 => val s p n + bitA s (p + n) * 2 ^ n
theorem val_range (s : ByteArray) (p : Nat) : ∀ n, 0 ≤ val s p n ∧ val s p n < 2 ^ n
  | 0 => by simp [val]
  | n + 1 => by
    have h := val_range s p n
    have hb := bitA_range s (p + n)
    have h2 : (0 : Int) < 2 ^ n := Int.pow_pos (by decide)
    rw [val, Int.pow_succ]
    have h3 : bitA s (p + n) = 0 ∨ bitA s (p + n) = 1 := by omega
    rcases h3 with h3 | h3 <;> rw [h3] <;> omega
theorem val_add (s : ByteArray) (p a : Nat) : ∀ b, val s p (a + b) = val s p a + 2 ^ a * val s (p + a) b
  | 0 => by simp [val]
  | b + 1 => by
    rw [← Nat.add_assoc, val, val_add s p a b, val, Int.mul_add, Nat.add_assoc p a b, Int.pow_add, ← Int.add_assoc]
    congr 1
    rw [Int.mul_comm (bitA s (p + (a + b))), Int.mul_assoc, Int.mul_comm (2 ^ b : Int)]
theorem val_mod (s : ByteArray) (p a b : Nat) : val s p (a + b) % 2 ^ a = val s p a := by
  rw [val_add, Int.add_mul_emod_self_left]
  exact Int.emod_eq_of_lt (val_range s p a).1 (val_range s p a).2
theorem val_div (s : ByteArray) (p a b : Nat) : val s p (a + b) / 2 ^ a = val s (p + a) b := by
  have h2 : (2 ^ a : Int) ≠ 0 := by have : (0 : Int) < 2 ^ a := Int.pow_pos (by decide); omega
  rw [val_add, Int.add_mul_ediv_left _ _ h2, Int.ediv_eq_zero_of_lt (val_range s p a).1 (val_range s p a).2, Int.zero_add]
theorem val_byte (s : ByteArray) (a : Nat) : val s (8 * a) 8 = bt s (a : Int) := by
  have hb := bt_range s (a : Int)
  have e : ∀ k, k < 8 → bitA s (8 * a + k) = bt s (a : Int) / 2 ^ k % 2 := fun k hk => by
    unfold bitA; rw [show (8 * a + k) / 8 = a by omega, show (8 * a + k) % 8 = k by omega]
  have e0 := e 0 (by omega)
  rw [Nat.add_zero] at e0
  simp only [val, Nat.add_zero]
  rw [e0, e 1 (by omega), e 2 (by omega), e 3 (by omega), e 4 (by omega), e 5 (by omega), e 6 (by omega), e 7 (by omega)]
  simp only [Int.reducePow]
  omega
/-- The bits of a number, the lowest ahead. -/
def bitsN (n : Int) : Nat → List Int
  | 0 => []
  | k + 1 => n % 2 :: bitsN (n / 2) k
theorem bitsN_length (n : Int) : ∀ k, (bitsN n k).length = k
  | 0 => rfl
  | k + 1 => by rw [bitsN, List.length_cons, bitsN_length (n / 2) k]
theorem bitsN_add (n : Int) (hn : 0 ≤ n) : ∀ a b, bitsN n (a + b) = bitsN n a ++ bitsN (n / 2 ^ a) b
  | 0, b => by simp [bitsN]
  | a + 1, b => by
    rw [show a + 1 + b = (a + b) + 1 by omega, bitsN, bitsN, bitsN_add (n / 2) (by omega) a b, List.cons_append, Int.ediv_ediv_of_nonneg (by decide), Int.pow_succ']
theorem bitsN_mod (n : Int) (hn : 0 ≤ n) : ∀ a, bitsN (n % 2 ^ a) a = bitsN n a
  | 0 => rfl
  | a + 1 => by
    have h2 : (0 : Int) < 2 ^ a := Int.pow_pos (by decide)
    rw [bitsN, bitsN, ← bitsN_mod (n / 2) (by omega) a, Int.pow_succ']
    congr 1
    · exact Int.emod_emod_of_dvd _ ⟨2 ^ a, rfl⟩
    · congr 1
      have h3 := Int.emod_add_mul_ediv n (2 * 2 ^ a)
      have h4 : n / 2 / 2 ^ a = n / (2 * 2 ^ a) := Int.ediv_ediv_of_nonneg (by decide)
      have h5 := Int.emod_add_mul_ediv (n / 2) (2 ^ a)
      rw [h4] at h5
      have h6 : 2 * 2 ^ a * (n / (2 * 2 ^ a)) = 2 * (2 ^ a * (n / (2 * 2 ^ a))) := by rw [Int.mul_assoc]
      generalize 2 ^ a * (n / (2 * 2 ^ a)) = z at *
      omega
theorem bitsN_cat (x n : Int) (m : Nat) (hx0 : 0 ≤ x) (hx : x < 2 ^ m) (hn : 0 ≤ n) (k : Nat) : bitsN (x + n * 2 ^ m) (m + k) = bitsN x m ++ bitsN n k := by
  have h2 : (0 : Int) < 2 ^ m := Int.pow_pos (by decide)
  have h0 : 0 ≤ x + n * 2 ^ m := by have := Int.mul_nonneg hn (Int.le_of_lt h2); omega
  rw [bitsN_add _ h0, Int.add_mul_ediv_right _ _ (by omega), Int.ediv_eq_zero_of_lt hx0 hx, Int.zero_add, ← bitsN_mod _ h0, Int.add_mul_emod_self_right, Int.emod_eq_of_lt hx0 hx]
/-- The bits of bytes. -/
def flat (xs : List Int) : List Int := xs.flatMap (fun x => bitsN x 8)
theorem flat_length (xs : List Int) : (flat xs).length = 8 * xs.length := by
  induction xs with
  | nil => rfl
  | cons x xs ih => rw [flat, List.flatMap_cons, List.length_append, bitsN_length, List.length_cons, Nat.mul_add]; unfold flat at ih; omega
theorem flat_snoc (xs : List Int) (x : Int) : flat (xs ++ [x]) = flat xs ++ bitsN x 8 := by simp [flat]
/-- What a writer holds: bytes, and some bits between. -/
structure Held (L : List Int) (xs : List Int) (x : Int) (m : Nat) : Prop where
  lt : m < 8
  x0 : 0 ≤ x
  x1 : x < 2 ^ m
  eq : L = flat xs ++ bitsN x m
  by_ : ∀ y ∈ xs, 0 ≤ y ∧ y < 256
theorem Held.nil : Held [] [] 0 0 := ⟨by omega, Int.le_refl _, by decide, rfl, by simp⟩
theorem Held.length {L xs : List Int} {x : Int} {m : Nat} (h : Held L xs x m) : L.length = 8 * xs.length + m := by rw [h.eq, List.length_append, flat_length, bitsN_length]
theorem bitsN_getD (n : Int) (hn : 0 ≤ n) : ∀ k i, i < k → (bitsN n k).getD i 0 = n / 2 ^ i % 2
  | 0, i, h => by omega
  | k + 1, 0, _ => by rw [bitsN, List.getD_cons_zero, Int.pow_zero, Int.ediv_one]
  | k + 1, i + 1, h => by
    rw [bitsN, List.getD_cons_succ, bitsN_getD (n / 2) (by omega) k i (by omega), Int.ediv_ediv_of_nonneg (by decide), Int.pow_succ']
theorem bitsN_zero : ∀ k, bitsN 0 k = List.replicate k 0
  | 0 => rfl
  | k + 1 => by rw [bitsN, List.replicate_succ]; exact congrArg _ (bitsN_zero k)
theorem bitsN_pad (x : Int) (m : Nat) (h0 : 0 ≤ x) (h : x < 2 ^ m) (k : Nat) : bitsN x m ++ List.replicate k 0 = bitsN x (m + k) := by
  rw [bitsN_add x h0, Int.ediv_eq_zero_of_lt h0 h, bitsN_zero]
theorem flat_cons (y : Int) (ys : List Int) : flat (y :: ys) = bitsN y 8 ++ flat ys := by simp [flat]
theorem flat_getD : ∀ (ys : List Int), (∀ y ∈ ys, 0 ≤ y ∧ y < 256) → ∀ i, i < 8 * ys.length → (flat ys).getD i 0 = ys.getD (i / 8) 0 / 2 ^ (i % 8) % 2
  | [], _, i, h => by simp at h
  | y :: ys, hy, i, h => by
    have h0 := hy y (List.mem_cons_self ..)
    rw [flat_cons, List.getD_eq_getElem?_getD]
    by_cases h8 : i < 8
    · rw [List.getElem?_append_left (by rw [bitsN_length]; exact h8), ← List.getD_eq_getElem?_getD, bitsN_getD y h0.1 8 i h8, show i / 8 = 0 by omega, show i % 8 = i by omega]; rfl
    · rw [List.getElem?_append_right (by rw [bitsN_length]; omega), bitsN_length, ← List.getD_eq_getElem?_getD, flat_getD ys (fun z hz => hy z (List.mem_cons_of_mem _ hz)) (i - 8) (by rw [List.length_cons] at h; omega)]
      rw [show i / 8 = (i - 8) / 8 + 1 by omega, List.getD_cons_succ, show i % 8 = (i - 8) % 8 by omega]
theorem bitA_flat (s : ByteArray) (i : Nat) (h : i < 8 * s.size) : bitA s i = (flat (bytesOf s)).getD i 0 := by
  rw [flat_getD _ (bytes_range s) i (by rw [bytesOf_length]; exact h)]
  unfold bitA
  have e := bytesOf_get? s (i / 8)
  rw [if_pos (by omega)] at e
  rw [List.getD_eq_getElem?_getD, e]; rfl
theorem val_of (s : ByteArray) (p : Nat) (n : Int) (hn : 0 ≤ n) : ∀ w, (∀ i, i < w → bitA s (p + i) = n / 2 ^ i % 2) → val s p w = n % 2 ^ w
  | 0, _ => by rw [val, Int.pow_zero, Int.emod_one]
  | w + 1, h => by
    rw [val, val_of s p n hn w (fun i hi => h i (by omega)), h w (by omega)]
    have h1 := Int.emod_add_mul_ediv n (2 ^ w)
    have h2 := Int.emod_add_mul_ediv (n / 2 ^ w) 2
    have h3 : n / 2 ^ w / 2 = n / 2 ^ (w + 1) := by rw [Int.ediv_ediv_of_nonneg (Int.le_of_lt (Int.pow_pos (by decide))), Int.pow_succ]
    have h4 := Int.emod_add_mul_ediv n (2 ^ (w + 1))
    rw [h3] at h2
    rw [Int.pow_succ] at h4 ⊢
    have h5 : (2 : Int) ^ w * (n / 2 ^ w) = 2 ^ w * (n / 2 ^ w % 2) + 2 ^ w * 2 * (n / (2 ^ w * 2)) := by
      rw [Int.pow_succ] at h2
      rw [← h2, Int.mul_add, h2, Int.mul_assoc]
    rw [Int.mul_comm (n / 2 ^ w % 2)]
    omega
/-- The bytes of what is held, and they are so many bits more of 0. -/
def packL (xs : List Int) (x : Int) (m : Nat) : List Int := if m = 0 then xs else xs ++ [x]
theorem Held.pack_range {L xs : List Int} {x : Int} {m : Nat} (h : Held L xs x m) : ∀ y ∈ packL xs x m, 0 ≤ y ∧ y < 256 := by
  intro y hy
  unfold packL at hy
  split at hy
  · exact h.by_ y hy
  · rcases List.mem_append.1 hy with hy | hy
    · exact h.by_ y hy
    · rw [List.mem_singleton.1 hy]
      have h2 : (2 : Int) ^ m ≤ 2 ^ 8 := pow_le2 (by have := h.lt; omega)
      exact ⟨h.x0, Int.lt_of_lt_of_le h.x1 h2⟩
theorem Held.pack {L xs : List Int} {x : Int} {m : Nat} (h : Held L xs x m) : flat (packL xs x m) = L ++ List.replicate ((8 - m) % 8) 0 := by
  have hm := h.lt
  unfold packL
  rw [h.eq]
  by_cases h0 : m = 0
  · subst h0
    rw [if_pos rfl]
    simp [bitsN]
  · rw [if_neg h0, flat_snoc, List.append_assoc, show (8 - m) % 8 = 8 - m by omega, bitsN_pad x m h.x0 h.x1, show m + (8 - m) = 8 by omega]
theorem Held.pack_length {L xs : List Int} {x : Int} {m : Nat} (h : Held L xs x m) : (packL xs x m).length = (L.length + 7) / 8 := by
  have hm := h.lt
  rw [h.length]
  unfold packL
  split
  · omega
  · rw [List.length_append, List.length_singleton]; omega
/-- The text of bits. -/
structure TextOf (L : List Int) (t : ByteArray) : Prop where
  size : t.size = (L.length + 7) / 8
  eq : flat (bytesOf t) = L ++ List.replicate ((8 - L.length % 8) % 8) 0
theorem Held.text {L xs : List Int} {x : Int} {m : Nat} (h : Held L xs x m) : TextOf L (strOfNums (packL xs x m)) := by
  have hb := bytesOf_strOfNums _ h.pack_range
  refine ⟨by rw [← bytesOf_length, hb, h.pack_length], ?_⟩
  rw [hb, h.pack, h.length]
  have := h.lt
  rw [show (8 * xs.length + m) % 8 = m by omega]
theorem flat_inj : ∀ (a b : List Int), (∀ y ∈ a, 0 ≤ y ∧ y < 256) → (∀ y ∈ b, 0 ≤ y ∧ y < 256) → flat a = flat b → a = b
  | [], [], _, _, _ => rfl
  | [], b :: bs, _, _, h => by have := congrArg List.length h; rw [flat_length, flat_length] at this; simp at this
  | a :: as_, [], _, _, h => by have := congrArg List.length h; rw [flat_length, flat_length] at this; simp at this
  | a :: as_, b :: bs, ha, hb, h => by
    rw [flat_cons, flat_cons] at h
    have h2 := List.append_inj h (by rw [bitsN_length, bitsN_length])
    have a0 := ha a (List.mem_cons_self ..)
    have b0 := hb b (List.mem_cons_self ..)
    have e : a = b := by
      have h3 := h2.1
      simp only [bitsN, List.cons.injEq] at h3
      omega
    rw [e, flat_inj as_ bs (fun y hy => ha y (List.mem_cons_of_mem _ hy)) (fun y hy => hb y (List.mem_cons_of_mem _ hy)) h2.2]
theorem TextOf.uniq {L : List Int} {t t' : ByteArray} (h : TextOf L t) (h' : TextOf L t') : t = t' := by
  apply bytes_ext
  exact flat_inj _ _ (bytes_range t) (bytes_range t') (h.eq.trans h'.eq.symm)
theorem TextOf.bit {L : List Int} {t : ByteArray} (h : TextOf L t) (i : Nat) (hi : i < L.length) : bitA t i = L.getD i 0 := by
  have hs := h.size
  rw [bitA_flat t i (by omega), h.eq, List.getD_eq_getElem?_getD, List.getElem?_append_left hi, ← List.getD_eq_getElem?_getD]
theorem TextOf.bit0 {L : List Int} {t : ByteArray} (h : TextOf L t) (i : Nat) (hi : L.length ≤ i) (hi2 : i < 8 * t.size) : bitA t i = 0 := by
  rw [bitA_flat t i hi2, h.eq, List.getD_eq_getElem?_getD, List.getElem?_append_right hi, List.getElem?_replicate]
  split <;> rfl
/-- What was put is got. -/
theorem TextOf.get {A B : List Int} {n : Int} {w : Nat} {t : ByteArray} (h : TextOf (A ++ bitsN n w ++ B) t) (hn : 0 ≤ n) (hw : n < 2 ^ w) : val t A.length w = n := by
  rw [val_of t A.length n hn w (fun i hi => ?_), Int.emod_eq_of_lt hn hw]
  rw [h.bit (A.length + i) (by simp [bitsN_length]; omega), List.getD_eq_getElem?_getD, List.append_assoc, List.getElem?_append_right (by omega), Nat.add_sub_cancel_left, List.getElem?_append_left (by rw [bitsN_length]; exact hi), ← List.getD_eq_getElem?_getD, bitsN_getD n hn w i hi]
end Go.Proofs.Ytfoicjlkbkjfjaa.Bits
