/- Squeeze: the document's Stored; walked by hand. Squeeze in plain numbers: how long what is told is; the page's examples. Squeeze in plain numbers: the document's piece is the finder's; what is bits is held. -/
import Derived.Test.YtghoifkaikddlaaGreatHand11l
namespace Go.Proofs.YtghoifkaikddlaaGreat.Hand
open Go.RowKit Go.Proofs.YtghoifkaikddlaaGreatW.PrintWords Go.Proofs.YtghoifkaikddlaaGreatW.PrintLast Go.Proofs.YtghoifkaikddlaaGreatW.PrintMore Go.Proofs.YtghoifkaikddlaaGreat.Num Go.Proofs.YtghoifkaikddlaaGreat.Bits
set_option linter.unusedVariables false
set_option linter.unusedSimpArgs false
def headR (n l : Int) : List Int := [l, n % 256, n / 256, (65535 - n) % 256, (65535 - n) / 256]
def refB : Nat → ByteArray → List Int → List Int
 | 0, _, o => o
 | k + 1, s, o => if s.size ≤ 65535 then o ++ headR s.size 1 ++ bytesOf s else refB k (s.extract 65535 s.size) (o ++ headR 65535 0 ++ bytesOf (s.extract 0 65535))
def refStoreF (s : ByteArray) : ByteArray := strOfNums (refB (s.size / 65535 + 1) s [])
end Go.Proofs.YtghoifkaikddlaaGreat.Hand
namespace Go.Proofs.YtghoifkaikddlaaGreat.Hand
open Go.RowKit Go.Proofs.YtghoifkaikddlaaGreatW.PrintWords Go.Proofs.YtghoifkaikddlaaGreatW.PrintLast Go.Proofs.YtghoifkaikddlaaGreatW.PrintMore Go.Proofs.YtghoifkaikddlaaGreat.Num Go.Proofs.YtghoifkaikddlaaGreat.Bits
set_option linter.unusedVariables false
set_option linter.unusedSimpArgs false
set_option maxRecDepth 100000
theorem unflat_length : ∀ (k : Nat) (L : List Int), (unflat k L).length = k
 | 0, _ => rfl
 | k + 1, L => by rw [unflat, List.length_cons, unflat_length k]
theorem textL_size (L : List Int) : (textL L).size = (L.length + 7) / 8 := by
 unfold textL
 rw [strOfNums_size, unflat_length]
theorem alignL_length (L : List Int) : (alignL L).length = L.length + (8 - L.length % 8) % 8 := by
 unfold alignL
 rw [List.length_append, List.length_replicate]
theorem headB_length (s : ByteArray) (L : List Int) (h : L.length % 8 = 0) : (headB s L).length = L.length + 40 := by
 unfold headB
 simp only [List.length_append, bitsN_length, alignL_length]
 omega
def blocksN (n : Nat) : Nat := max 1 ((n + 65534) / 65535)
theorem storeB_length : ∀ (k : Nat) (s : ByteArray) (L : List Int), s.size < 65535 * k → L.length % 8 = 0 → (storeB k s L).length = L.length + 40 * blocksN s.size + 8 * s.size
 | 0, s, L, h, _ => absurd h (by omega)
 | k + 1, s, L, h, hL => by
  rw [storeB]
  have hh := headB_length s L hL
  split
  ·rename_i h1
   rw [List.length_append, flat_length, bytesOf_length, hh]
   unfold blocksN
   omega
  ·rename_i h1
   have e0 : (s.extract 0 65535).size = 65535 := by rw [ByteArray.size_extract]; omega
   have e1 : (s.extract 65535 s.size).size = s.size - 65535 := by rw [ByteArray.size_extract]; omega
   rw [storeB_length k _ _ (by rw [e1]; omega) (by rw [List.length_append, flat_length, bytesOf_length, hh, e0]; omega), List.length_append, flat_length, bytesOf_length, hh, e0, e1]
   unfold blocksN
   omega
theorem storeF_size (s : ByteArray) : (storeF s).size = s.size + 5 * blocksN s.size := by
 unfold storeF
 rw [textL_size, storeB_length _ _ _ (by omega) (by rfl)]
 simp only [List.length_nil]
 omega
end Go.Proofs.YtghoifkaikddlaaGreat.Hand
namespace Go.Proofs.YtghoifkaikddlaaGreat.Hand
open Go.RowKit Go.Proofs.YtghoifkaikddlaaGreatW.PrintWords Go.Proofs.YtghoifkaikddlaaGreatW.PrintLast Go.Proofs.YtghoifkaikddlaaGreatW.PrintMore Go.Proofs.YtghoifkaikddlaaGreat.Num Go.Proofs.YtghoifkaikddlaaGreat.Bits
set_option linter.unusedVariables false
set_option linter.unusedSimpArgs false
set_option maxRecDepth 100000
def Bit01 (L : List Int) : Prop := ∀ b ∈ L, b = 0 ∨ b = 1
theorem Bit01.app {a b : List Int} (h : Bit01 a) (k : Bit01 b) : Bit01 (a ++ b) := fun x hx => by rcases List.mem_append.1 hx with hx | hx; exact h x hx; exact k x hx
theorem bit01_bits : ∀ (w : Nat) (n : Int), Bit01 (bitsN n w)
 | 0, n => fun b hb => by rw [bitsN] at hb; cases hb
 | w + 1, n => fun b hb => by
  rw [bitsN] at hb
  rcases List.mem_cons.1 hb with hb | hb
  ·omega
  ·exact bit01_bits w _ b hb
theorem bit01_rev (c : Int) : ∀ w, Bit01 (revB c w)
 | 0 => fun b hb => by rw [revB] at hb; cases hb
 | w + 1 => fun b hb => by
  rw [revB] at hb
  rcases List.mem_cons.1 hb with hb | hb
  ·omega
  ·exact bit01_rev c w b hb
theorem bit01_copy (n back : Int) : Bit01 (copyB n back) := ((bit01_rev _ _).app (bit01_bits _ _)).app ((bit01_rev _ _).app (bit01_bits _ _))
theorem bit01_fix (s : ByteArray) : ∀ k a, Bit01 (fixG s k a)
 | 0, a => fun b hb => by rw [fixG] at hb; cases hb
 | k + 1, a => by
  rw [fixG]
  split
  ·split
   ·exact (bit01_rev _ _).app (bit01_fix s k _)
   ·exact (bit01_copy _ _).app (bit01_fix s k _)
  ·exact bit01_rev _ _
theorem held_snoc {L xs : List Int} {x : Int} {m : Nat} (h : Held L xs x m) (b : Int) (hb : b = 0 ∨ b = 1) : ∃ xs' x' m', Held (L ++ [b]) xs' x' m' := by
 have e1 : bitsN b 1 = [b] := by rcases hb with rfl | rfl <;> rfl
 have hb0 : 0 ≤ b := by omega
 have hc := bitsN_cat x b m h.x0 h.x1 hb0 1
 rw [e1] at hc
 have hp : (0 : Int) < 2 ^ m := Int.pow_pos (by decide)
 have hx2 : x + b * 2 ^ m < 2 ^ (m + 1) := by
  have := h.x1
  rw [Int.pow_succ]
  rcases hb with rfl | rfl <;> omega
 have hx0 : 0 ≤ x + b * 2 ^ m := by
  have := h.x0
  rcases hb with rfl | rfl <;> omega
 by_cases h7 : m = 7
 ·subst h7
  refine ⟨xs ++ [x + b * 2 ^ 7], 0, 0, by omega, by omega, by decide, ?_, fun y hy => ?_⟩
  ·rw [flat_snoc, show bitsN (x + b * 2 ^ 7) 8 = bitsN x 7 ++ [b] from hc, h.eq, List.append_assoc]
   simp [bitsN]
  ·rcases List.mem_append.1 hy with hy | hy
   ·exact h.by_ y hy
   ·rw [List.mem_singleton.1 hy]; exact ⟨hx0, hx2⟩
 ·exact ⟨xs, x + b * 2 ^ m, m + 1, by have := h.lt; omega, hx0, hx2, by rw [hc, h.eq, List.append_assoc], h.by_⟩
theorem held_bits (L : List Int) (h : Bit01 L) : ∃ xs x m, Held L xs x m := by
 induction hn : L.length generalizing L with
 | zero => obtain rfl := List.eq_nil_of_length_eq_zero hn; exact ⟨[], 0, 0, Held.nil⟩
 | succ n ih =>
  have hne : L ≠ [] := by intro he; rw [he] at hn; cases hn
  have e := List.dropLast_concat_getLast hne
  obtain ⟨xs, x, m, hh⟩ := ih L.dropLast (fun b hb => h b (List.dropLast_sublist L |>.subset hb)) (by rw [List.length_dropLast]; omega)
  have := held_snoc hh (L.getLast hne) (h _ (List.getLast_mem hne))
  rw [e] at this
  exact this
theorem held_textL {L xs : List Int} {x : Int} {m : Nat} (h : Held L xs x m) : strOfNums (packL xs x m) = textL L := TextOf.textL h.text
theorem flat_app (a b : List Int) : flat (a ++ b) = flat a ++ flat b := by simp [flat]
theorem headR_range (n l : Int) (h0 : 0 ≤ n) (h1 : n ≤ 65535) (hl : 0 ≤ l ∧ l < 256) : ∀ x ∈ headR n l, 0 ≤ x ∧ x < 256 := by
 intro x hx
 simp only [headR, List.mem_cons, List.not_mem_nil, or_false] at hx
 omega
theorem bits16 (n : Int) (h0 : 0 ≤ n) : bitsN n 16 = bitsN (n % 256) 8 ++ bitsN (n / 256) 8 := by
 rw [show (16 : Nat) = 8 + 8 from rfl, bitsN_add n h0, show (256 : Int) = 2 ^ 8 from rfl, bitsN_mod n h0]
theorem flat_headR (n l : Int) (h0 : 0 ≤ n) (h1 : n ≤ 65535) : flat (headR n l) = bitsN l 8 ++ (bitsN n 16 ++ bitsN (65535 - n) 16) := by
 rw [bits16 n h0, bits16 (65535 - n) (by omega)]
 simp only [headR, flat_cons, List.append_assoc]
 simp [flat]
theorem head_flat (s : ByteArray) (o : List Int) (l : Int) (n : Nat) (hl : l = if s.size ≤ 65535 then 1 else 0) (hn : n = min s.size 65535) : headB s (flat o) = flat (o ++ headR n l) := by
 have h8 : (flat o ++ bitsN l 1 ++ bitsN 0 2).length = 8 * o.length + 3 := by rw [List.length_append, List.length_append, flat_length, bitsN_length, bitsN_length]
 unfold headB alignL
 rw [← hl, ← hn, h8, flat_app, flat_headR _ _ (by omega) (by omega), show (8 - (8 * o.length + 3) % 8) % 8 = 5 by omega]
 have hp : bitsN l 1 ++ (bitsN 0 2 ++ List.replicate 5 0) = bitsN l 8 := by
  rw [bitsN_zero, List.replicate_append_replicate, bitsN_pad l 1 (by rw [hl]; split <;> decide) (by rw [hl]; split <;> decide)]
 rw [← hp]
 simp only [List.append_assoc]
theorem store_ref : ∀ (k : Nat) (s : ByteArray) (o : List Int), s.size < 65535 * k → (∀ x ∈ o, 0 ≤ x ∧ x < 256) → storeB k s (flat o) = flat (refB k s o) ∧ ∀ x ∈ refB k s o, 0 ≤ x ∧ x < 256
 | 0, s, o, h, _ => absurd h (by omega)
 | k + 1, s, o, h, ho => by
  rw [storeB, refB]
  split
  ·rename_i h1
   rw [head_flat s o 1 s.size (by rw [if_pos h1]) (by omega), ← flat_app]
   refine ⟨rfl, fun x hx => ?_⟩
   rcases List.mem_append.1 hx with hx | hx
   ·rcases List.mem_append.1 hx with hx | hx
    ·exact ho x hx
    ·exact headR_range _ _ (by omega) (by omega) (by decide) x hx
   ·exact bytes_range s x hx
  ·rename_i h1
   rw [head_flat s o 0 65535 (by rw [if_neg h1]) (by omega), ← flat_app]
   refine store_ref k _ _ (by rw [ByteArray.size_extract]; omega) (fun x hx => ?_)
   rcases List.mem_append.1 hx with hx | hx
   ·rcases List.mem_append.1 hx with hx | hx
    ·exact ho x hx
    ·exact headR_range 65535 0 (by omega) (by omega) (by decide) x hx
   ·exact bytes_range _ x hx
theorem textL_flat (ys : List Int) (h : ∀ y ∈ ys, 0 ≤ y ∧ y < 256) : textL (flat ys) = strOfNums ys := by
 unfold textL
 rw [flat_length, show (8 * ys.length + 7) / 8 = ys.length by omega, show (8 - 8 * ys.length % 8) % 8 = 0 by omega, List.replicate_zero, List.append_nil, unflat_flat ys h]
theorem store_same (s : ByteArray) : storeF s = refStoreF s := by
 have h := store_ref (s.size / 65535 + 1) s [] (by omega) (fun x hx => by cases hx)
 unfold storeF refStoreF
 rw [show storeB (s.size / 65535 + 1) s [] = storeB (s.size / 65535 + 1) s (flat []) from rfl, h.1, textL_flat _ h.2]
end Go.Proofs.YtghoifkaikddlaaGreat.Hand
