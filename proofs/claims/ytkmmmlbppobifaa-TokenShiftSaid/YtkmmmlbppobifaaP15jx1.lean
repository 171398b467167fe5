-- Written for this claim by a program of this session, over the kit's print.
import Derived.Test.YtkmmmlbppobifaaP15jx0
namespace Go.Proofs.Ytkmmmlbppobifaa.P15j
open Go.RowKit Go.Proofs.YtkmmmlbppobifaaW.PrintWords Go.Proofs.YtkmmmlbppobifaaW.PrintLast Go.Proofs.YtkmmmlbppobifaaW.PrintMore
attribute [local go_sem] max2_int min2_int max_two min_two max_three min_three max_four min_four   -- for this text's walks alone
set_option linter.unusedVariables false
set_option linter.unusedSimpArgs false

def binderylaw15_TokenShift.Pure : Prop := True
theorem binderylaw15_TokenShift.walk (_P : binderylaw15_TokenShift.Pure) (a0 : ByteArray) (a1 : ByteArray) (a2 : Int) (w : World) (w0 : a0.size ≤ 140737488351232) (w1 : a1.size ≤ 140737488351232) (w2 : (Lit.int .u16 a2).wf = true) :
    Calls Try.prog 5 #[.string a0, .string a1, .int .u16 a2] w fun e w' => e = .returned (.bool true) ∧ Below w.heap.size w w' :=
  Go.Proofs.Ytkmmmlbppobifaa.Hand.tokenShift_walk a0 a1 a2 w w0 w1 w2

-- GIVEN by hand: function 5 (binderylaw15_TokenShift)

end Go.Proofs.Ytkmmmlbppobifaa.P15j
