-- Written for this claim by a program of this session, over the kit's print.
import Derived.Test.YtkmmmlbppobifaaP15zx0
namespace Go.Proofs.Ytkmmmlbppobifaa.P15z
open Go.RowKit Go.Proofs.YtkmmmlbppobifaaW.PrintWords Go.Proofs.YtkmmmlbppobifaaW.PrintLast Go.Proofs.YtkmmmlbppobifaaW.PrintMore
attribute [local go_sem] max2_int min2_int max_two min_two max_three min_three max_four min_four   -- for this text's walks alone
set_option linter.unusedVariables false
set_option linter.unusedSimpArgs false
def binderylaw15_TokenAll.Pure : Prop := True
theorem binderylaw15_TokenAll.walk (_P : binderylaw15_TokenAll.Pure) (a0 : ByteArray) (w : World) (w0 : a0.size ≤ 140737488351232) :
  Calls Try.prog 4 #[.string a0] w fun e w' => e = .returned (.bool true) ∧ Below w.heap.size w w' :=
 Go.Proofs.Ytkmmmlbppobifaa.Hand.tokenAll_walk a0 w w0

-- GIVEN by hand: function 4 (binderylaw15_TokenAll)
end Go.Proofs.Ytkmmmlbppobifaa.P15z
