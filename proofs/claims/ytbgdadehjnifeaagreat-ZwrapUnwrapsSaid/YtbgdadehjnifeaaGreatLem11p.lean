/- Squeeze: the document's Stored; walked by hand. Squeeze in plain numbers: how long what is told is; the page's examples. Squeeze in plain numbers: the document's piece is the finder's; what is bits is held. -/
import Derived.Test.YtbgdadehjnifeaaGreatHand11l
namespace Go.Proofs.YtbgdadehjnifeaaGreat.Hand
open Go.RowKit Go.Proofs.YtbgdadehjnifeaaGreatW.PrintWords Go.Proofs.YtbgdadehjnifeaaGreatW.PrintLast Go.Proofs.YtbgdadehjnifeaaGreatW.PrintMore Go.Proofs.YtbgdadehjnifeaaGreat.Num Go.Proofs.YtbgdadehjnifeaaGreat.Bits
set_option linter.unusedVariables false
set_option linter.unusedSimpArgs false
def headR (n l : Int) : List Int := [l, n % 256, n / 256, (65535 - n) % 256, (65535 - n) / 256]
def refB : Nat → ByteArray → List Int → List Int
 | 0, _, o => o
 | k + 1, s, o => if s.size ≤ 65535 then o ++ headR s.size 1 ++ bytesOf s else refB k (s.extract 65535 s.size) (o ++ headR 65535 0 ++ bytesOf (s.extract 0 65535))
def refStoreF (s : ByteArray) : ByteArray := strOfNums (refB (s.size / 65535 + 1) s [])
set_option maxRecDepth 100000 in
def binderyref11_Stored.f (a0 : ByteArray) : Option ByteArray := if a0.size ≤ 100000 then some (refStoreF a0) else none
end Go.Proofs.YtbgdadehjnifeaaGreat.Hand
namespace Go.Proofs.YtbgdadehjnifeaaGreat.Hand
open Go.RowKit Go.Proofs.YtbgdadehjnifeaaGreatW.PrintWords Go.Proofs.YtbgdadehjnifeaaGreatW.PrintLast Go.Proofs.YtbgdadehjnifeaaGreatW.PrintMore Go.Proofs.YtbgdadehjnifeaaGreat.Num Go.Proofs.YtbgdadehjnifeaaGreat.Bits
set_option linter.unusedVariables false
set_option linter.unusedSimpArgs false
set_option maxRecDepth 100000
theorem unflat_length : ∀ (k : Nat) (L : List Int), (unflat k L).length = k
 | 0, _ => rfl
 | k + 1, L => by rw [unflat, List.length_cons, unflat_length k]
theorem textL_size (L : List Int) : (textL L).size = (L.length + 7) / 8 := by
 unfold textL
 rw [strOfNums_size, unflat_length]
theorem alignL_length (L : List Int) : (alignL L).length = L.length + (8 - L.length % 8) % 8 := by
 unfold alignL
 rw [List.length_append, List.length_replicate]
theorem headB_length (s : ByteArray) (L : List Int) (h : L.length % 8 = 0) : (headB s L).length = L.length + 40 := by
 unfold headB
 simp only [List.length_append, bitsN_length, alignL_length]
 omega
def blocksN (n : Nat) : Nat := max 1 ((n + 65534) / 65535)
theorem storeB_length : ∀ (k : Nat) (s : ByteArray) (L : List Int), s.size < 65535 * k → L.length % 8 = 0 → (storeB k s L).length = L.length + 40 * blocksN s.size + 8 * s.size
 | 0, s, L, h, _ => absurd h (by omega)
 | k + 1, s, L, h, hL => by
  rw [storeB]
  have hh := headB_length s L hL
  split
  ·rename_i h1
   rw [List.length_append, flat_length, bytesOf_length, hh]
   unfold blocksN
   omega
  ·rename_i h1
   have e0 : (s.extract 0 65535).size = 65535 := by rw [ByteArray.size_extract]; omega
   have e1 : (s.extract 65535 s.size).size = s.size - 65535 := by rw [ByteArray.size_extract]; omega
   rw [storeB_length k _ _ (by rw [e1]; omega) (by rw [List.length_append, flat_length, bytesOf_length, hh, e0]; omega), List.length_append, flat_length, bytesOf_length, hh, e0, e1]
   unfold blocksN
   omega
theorem storeF_size (s : ByteArray) : (storeF s).size = s.size + 5 * blocksN s.size := by
 unfold storeF
 rw [textL_size, storeB_length _ _ _ (by omega) (by rfl)]
 simp only [List.length_nil]
 omega
end Go.Proofs.YtbgdadehjnifeaaGreat.Hand
namespace Go.Proofs.YtbgdadehjnifeaaGreat.Hand
open Go.RowKit Go.Proofs.YtbgdadehjnifeaaGreatW.PrintWords Go.Proofs.YtbgdadehjnifeaaGreatW.PrintLast Go.Proofs.YtbgdadehjnifeaaGreatW.PrintMore Go.Proofs.YtbgdadehjnifeaaGreat.Num Go.Proofs.YtbgdadehjnifeaaGreat.Bits
set_option linter.unusedVariables false
set_option linter.unusedSimpArgs false
set_option maxRecDepth 100000
end Go.Proofs.YtbgdadehjnifeaaGreat.Hand
