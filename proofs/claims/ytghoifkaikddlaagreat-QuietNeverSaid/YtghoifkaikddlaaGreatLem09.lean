/- Layer 8: the document's texts of bits. Codes: what the document's own functions tell. -/
import Derived.Test.YtghoifkaikddlaaGreatHand08p
import Derived.Test.YtghoifkaikddlaaGreatInf
import Derived.Test.YtghoifkaikddlaaGreatP09rx0
namespace Go.Proofs.YtghoifkaikddlaaGreat.Hand
open Go.RowKit Go.Proofs.YtghoifkaikddlaaGreatW.PrintWords Go.Proofs.YtghoifkaikddlaaGreatW.PrintLast Go.Proofs.YtghoifkaikddlaaGreat.Num Go.Proofs.YtghoifkaikddlaaGreat.Bits Go.Proofs.YtghoifkaikddlaaGreat.P08
set_option linter.unusedVariables false
end Go.Proofs.YtghoifkaikddlaaGreat.Hand
namespace Go.Proofs.YtghoifkaikddlaaGreat.Hand
open Go.RowKit Go.Proofs.YtghoifkaikddlaaGreatW.PrintWords Go.Proofs.YtghoifkaikddlaaGreatW.PrintLast Go.Proofs.YtghoifkaikddlaaGreatW.PrintMore Go.Proofs.YtghoifkaikddlaaGreat.Num Go.Proofs.YtghoifkaikddlaaGreat.Bits Go.Proofs.YtghoifkaikddlaaGreat.P09r
set_option linter.unusedVariables false
set_option linter.unusedSimpArgs false
theorem rd_nat (l : List Int) (i : Nat) : rd l (i : Int) = l.getD i 0 := by rw [rd, Int.toNat_natCast]
theorem reads_kdC {w : World} {A : Option Addr} {n : Nat} {xs : List Int} (h : Kd.C (Kd.int .i64) w A n xs) : ReadsInt w .i64 A n xs := Kd.reads_of_C (enc := Value.int .i64) (d := (0 : Int)) (h1 := fun _ => rfl) h
end Go.Proofs.YtghoifkaikddlaaGreat.Hand
