-- Written for this claim by a program of this session, over the kit's print.
import Derived.Test.YtkmmmlbppobifaaP15yx0
namespace Go.Proofs.Ytkmmmlbppobifaa.P15y
open Go.RowKit Go.Proofs.YtkmmmlbppobifaaW.PrintWords Go.Proofs.YtkmmmlbppobifaaW.PrintLast Go.Proofs.YtkmmmlbppobifaaW.PrintMore
attribute [local go_sem] max2_int min2_int max_two min_two max_three min_three max_four min_four   -- for this text's walks alone
set_option linter.unusedVariables false
set_option linter.unusedSimpArgs false
def binderylaw15_TokenNext.Pure : Prop := True
theorem binderylaw15_TokenNext.walk (_P : binderylaw15_TokenNext.Pure) (a0 : ByteArray) (a1 : Int) (w : World) (w0 : a0.size ≤ 140737488351232) (w1 : (Lit.int .i64 a1).wf = true) :
  Calls Try.prog 3 #[.string a0, .int .i64 a1] w fun e w' => e = .returned (.bool true) ∧ Below w.heap.size w w' :=
 Go.Proofs.Ytkmmmlbppobifaa.Hand.tokenNext_walk a0 a1 w w0 w1

-- GIVEN by hand: function 3 (binderylaw15_TokenNext)
end Go.Proofs.Ytkmmmlbppobifaa.P15y
