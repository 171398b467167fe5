-- Written for this claim by a program of this session, over the kit's print.
import Derived.Test.YtkmmmlbppobifaaP15vx0
namespace Go.Proofs.Ytkmmmlbppobifaa.P15v
open Go.RowKit Go.Proofs.YtkmmmlbppobifaaW.PrintWords Go.Proofs.YtkmmmlbppobifaaW.PrintLast Go.Proofs.YtkmmmlbppobifaaW.PrintMore
attribute [local go_sem] max2_int min2_int max_two min_two max_three min_three max_four min_four   -- for this text's walks alone
set_option linter.unusedVariables false
set_option linter.unusedSimpArgs false

def binderylaw15_TokenWhite.Pure : Prop := True
theorem binderylaw15_TokenWhite.walk (_P : binderylaw15_TokenWhite.Pure) (a0 : ByteArray) (a1 : ByteArray) (a2 : Int) (w : World) (w0 : a0.size ≤ 140737488351232) (w1 : a1.size ≤ 140737488351232) (w2 : (Lit.int .u8 a2).wf = true) :
    Calls Try.prog 6 #[.string a0, .string a1, .int .u8 a2] w fun e w' => e = .returned (.bool true) ∧ Below w.heap.size w w' :=
  Go.Proofs.Ytkmmmlbppobifaa.Hand.tokenWhite_walk a0 a1 a2 w w0 w1 w2

-- GIVEN by hand: function 6 (binderylaw15_TokenWhite)

end Go.Proofs.Ytkmmmlbppobifaa.P15v
