/- The end of a line, in plain numbers (over the token's seat). -/
import Derived.Test.YtkmmmlbppobifaaHand01
namespace Go.Proofs.Ytkmmmlbppobifaa.Hand
open Go.RowKit Go.Proofs.YtkmmmlbppobifaaW.PrintWords Go.Proofs.YtkmmmlbppobifaaW.PrintLast Go.Proofs.YtkmmmlbppobifaaW.PrintMore Go.Proofs.Ytkmmmlbppobifaa.Num Go.Proofs.Ytkmmmlbppobifaa.P01a
set_option linter.unusedVariables false
set_option linter.unusedSimpArgs false
def endsN (s : ByteArray) (i : Nat) : Nat :=
 if i < s.size then (if bt s (i : Int) = 10 then 1 else if bt s (i : Int) = 13 then (if i + 1 < s.size ∧ bt s ((i + 1 : Nat) : Int) = 10 then 2 else 1) else 0) else 0
theorem ends_f (s : ByteArray) (i : Nat) (hs : s.size ≤ 1000000) (hi : i ≤ s.size) : octet_Ends.f s i = some (endsN s i : Int) := by
 unfold octet_Ends.f octet_within.f endsN
 rw [if_pos (by omega), Option.bind_some]
 by_cases h : i < s.size
 ·rw [if_pos (decide_eq_true (by omega)), if_pos (by omega), if_pos (by omega), if_pos h]
  by_cases h1 : bt s (i : Int) = 10
  ·rw [if_pos h1, if_pos h1]; rfl
  ·rw [if_neg h1, if_neg h1]
   by_cases h2 : bt s (i : Int) = 13
   ·have e : (i : Int) + 1 = ((i + 1 : Nat) : Int) := by omega
    rw [if_pos h2, if_pos h2, e, w64 (by omega) (by omega)]
    by_cases h3 : i + 1 < s.size
    ·rw [if_pos (by omega), if_pos (by omega)]
     by_cases h4 : bt s ((i + 1 : Nat) : Int) = 10
     ·rw [if_pos h4, if_pos ⟨h3, h4⟩]; rfl
     ·rw [if_neg h4, if_neg (fun h => h4 h.2)]; rfl
    ·rw [if_neg (by omega), if_neg (fun h => h3 h.1)]; rfl
   ·rw [if_neg h2, if_neg h2]; rfl
 ·rw [if_neg (by rw [decide_eq_true_eq]; omega), if_neg h]; rfl
theorem ends_calls (s : ByteArray) (i : Nat) (hs : s.size ≤ 1000000) (hi : i ≤ s.size) (w : World) : Calls Try.prog 25 #[.string s, .int .i64 i] w fun e w' => e = .returned (.int .i64 (endsN s i : Int)) ∧ Drawn0 w w' :=
 octet_Ends.calls s i _ w (ends_f s i hs hi)
theorem endsN_le (s : ByteArray) (i : Nat) : i ≤ s.size → i + endsN s i ≤ s.size := by
 unfold endsN; split
 ·split
  ·omega
  ·split
   ·split <;> omega
   ·omega
 ·omega
end Go.Proofs.Ytkmmmlbppobifaa.Hand
