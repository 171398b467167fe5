/- White bytes, put in anywhere, turn nothing: neither the bytes, nor the error. -/
import Derived.Test.YthghjdajohcedaaLem06
namespace Go.Proofs.Ythghjdajohcedaa.Pure
open Go.RowKit Go.Proofs.Ythghjdajohcedaa.P06 Go.Proofs.YthghjdajohcedaaW.PrintWords Go.Proofs.YthghjdajohcedaaW.PrintLast Go.Proofs.Ythghjdajohcedaa.Hand Go.Proofs.Ythghjdajohcedaa.Num Go.Proofs.Ythghjdajohcedaa.Lem06
theorem whites : ∀ k : Fin 6, ∃ w, bytesOf ((⟨#[0, 9, 10, 12, 13, 32]⟩ : ByteArray).extract k.val (k.val + 1)) = [w] ∧ kF w = 0 ∧ hxF w < 0 ∧ w ≠ 62 := by
  intro k
  refine ⟨[0, 9, 10, 12, 13, 32].getD k.val 0, ?_⟩
  revert k
  decide +kernel
theorem bytes_cat (s t : ByteArray) : bytesOf (s ++ t) = bytesOf s ++ bytesOf t := by
  unfold bytesOf
  rw [ByteArray.data_append, Array.toList_append, List.map_append]
theorem HexaWhite : binderylaw06_HexaWhite.Pure := by
  intro s a b hs ha hb
  have ha2 : 0 ≤ a ∧ a ≤ 65535 := by simpa [Lit.wf, IntKind.min, IntKind.max, IntKind.bits, IntKind.signed] using ha
  have hb2 : 0 ≤ b ∧ b ≤ 255 := by simpa [Lit.wf, IntKind.min, IntKind.max, IntKind.bits, IntKind.signed] using hb
  unfold binderylaw06_HexaWhite.f
  by_cases h : (s.size : Int) > 5000
  · rw [if_pos h, digits_true]; rfl
  · have e1 : wrap64 ((s.size : Int) + 1) = (s.size : Int) + 1 := w64 (by omega) (by omega)
    have e2 : wrap64 a = a := w64 (by omega) (by omega)
    have e3 : wrap64 b = b := w64 (by omega) (by omega)
    rw [if_neg h, e1, e2, e3, tm _ ha2.1, tm _ hb2.1, if_neg (by omega), dec_f s (by omega), Option.bind_some]
    have g0 : 0 ≤ a % ((s.size : Int) + 1) := Int.emod_nonneg _ (by omega)
    have g1 : a % ((s.size : Int) + 1) < (s.size : Int) + 1 := Int.emod_lt_of_pos _ (by omega)
    obtain ⟨i, hi⟩ : ∃ i : Nat, a % ((s.size : Int) + 1) = i := ⟨(a % ((s.size : Int) + 1)).toNat, by omega⟩
    obtain ⟨k, hk⟩ : ∃ k : Nat, b % 6 = k := ⟨(b % 6).toNat, by omega⟩
    have hk6 : k < 6 := by omega
    rw [hi, hk]
    rw [hi] at g1
    clear e1 e2 e3
    have p1 : (0 : Int) ≤ (i : Int) := by omega
    have p2 : (i : Int) ≤ (s.size : Int) := by omega
    have p3 : (0 : Int) ≤ (k : Int) := by omega
    have p4 : (k : Int) ≤ ((k + 1 : Nat) : Int) := by omega
    have p5 : ((k + 1 : Nat) : Int) ≤ 6 := by omega
    have hsz : s.size ≤ 5000 := by omega
    have hil : i ≤ s.size := by omega
    clear ha2 hb2 g0 g1 hi hk h hs ha hb
    have e4 : wrap64 ((k : Int) + 1) = ((k + 1 : Nat) : Int) := (w64 (by omega) (by omega)).trans (by omega)
    rw [e4, Int.toNat_natCast, Int.toNat_natCast, Int.toNat_natCast, if_pos p1, if_pos p2, if_pos p3, if_pos p4, if_pos p5]
    clear p1 p2 p3 p4 p5 e4
    obtain ⟨w, w0, w1, w2, w3⟩ := whites ⟨k, hk6⟩
    dsimp only at w0
    generalize (⟨#[0, 9, 10, 12, 13, 32]⟩ : ByteArray).extract k (k + 1) = u at w0 ⊢
    have z1 : (s.extract 0 i).size = i := by rw [ByteArray.size_extract]; omega
    have z2 : u.size = 1 := by rw [← bytesOf_length, w0]; rfl
    have z3 : (s.extract i s.size).size = s.size - i := by rw [ByteArray.size_extract]; omega
    have hbt : bytesOf (s.extract 0 i ++ u ++ s.extract i s.size) = (bytesOf s).take i ++ w :: (bytesOf s).drop i := by
      rw [bytes_cat, bytes_cat, w0, drop_extract, bytesOf_extract, List.drop_zero, List.append_assoc]; rfl
    have y1 : (s.extract 0 i).size + u.size ≤ 9223372036854775807 := by omega
    have y2 : (s.extract 0 i ++ u).size + (s.extract i s.size).size ≤ 9223372036854775807 := by rw [ByteArray.size_append]; omega
    have y3 : (s.extract 0 i ++ u ++ s.extract i s.size).size ≤ 1000000 := by rw [ByteArray.size_append, ByteArray.size_append]; omega
    rw [if_pos y1, if_pos y2, dec_f _ y3, Option.bind_some, hbt, decB_white w _ w1 w2 w3, List.take_append_drop, if_pos rfl, if_pos rfl, digits_true]
    rfl
end Go.Proofs.Ythghjdajohcedaa.Pure
