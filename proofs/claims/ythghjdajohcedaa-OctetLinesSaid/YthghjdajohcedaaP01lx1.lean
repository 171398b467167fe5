-- Written for this claim by a program of this session, over the kit's print.
import Derived.Test.YthghjdajohcedaaP01lx0
namespace Go.Proofs.Ythghjdajohcedaa.P01l
open Go.RowKit Go.Proofs.YthghjdajohcedaaW.PrintWords Go.Proofs.YthghjdajohcedaaW.PrintLast Go.Proofs.YthghjdajohcedaaW.PrintMore
attribute [local go_sem] max2_int min2_int max_two min_two max_three min_three max_four min_four   -- for this text's walks alone
set_option linter.unusedVariables false
set_option linter.unusedSimpArgs false

def binderylaw01_OctetLines.Pure : Prop := True
theorem binderylaw01_OctetLines.walk (_P : binderylaw01_OctetLines.Pure) (a0 : ByteArray) (a1 : Int) (a2 : ByteArray) (w : World) (w0 : a0.size ≤ 140737488351232) (w1 : (Lit.int .i64 a1).wf = true) (w2 : a2.size ≤ 140737488351232) :
    Calls Try.prog 5 #[.string a0, .int .i64 a1, .string a2] w fun e w' => e = .returned (.bool true) ∧ Below w.heap.size w w' :=
  Go.Proofs.Ythghjdajohcedaa.Hand.octetLines_walk a0 a1 a2 w w0 w1 w2

-- GIVEN by hand: function 5 (binderylaw01_OctetLines)

end Go.Proofs.Ythghjdajohcedaa.P01l
