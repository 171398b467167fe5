-- Written for this claim by a program of this session, over the kit's print.
import Derived.Test.YtgoajdnofekcaaaP05tx0
namespace Go.Proofs.Ytgoajdnofekcaaa.P05t
open Go.RowKit Go.Proofs.YtgoajdnofekcaaaW.PrintWords Go.Proofs.YtgoajdnofekcaaaW.PrintLast Go.Proofs.YtgoajdnofekcaaaW.PrintMore
attribute [local go_sem] max2_int min2_int max_two min_two max_three min_three max_four min_four   -- for this text's walks alone
set_option linter.unusedVariables false
set_option linter.unusedSimpArgs false

def binderylaw05_AdlerTurned.Pure : Prop := True
theorem binderylaw05_AdlerTurned.walk (_P : binderylaw05_AdlerTurned.Pure) (a0 : ByteArray) (a1 : Int) (a2 : Int) (w : World) (w0 : a0.size ≤ 140737488351232) (w1 : (Lit.int .u16 a1).wf = true) (w2 : (Lit.int .u8 a2).wf = true) :
    Calls Try.prog 6 #[.string a0, .int .u16 a1, .int .u8 a2] w fun e w' => e = .returned (.bool true) ∧ Below w.heap.size w w' :=
  Go.Proofs.Ytgoajdnofekcaaa.Hand.turned_walk a0 a1 a2 w w0 w1 w2

-- GIVEN by hand: function 6 (binderylaw05_AdlerTurned)

end Go.Proofs.Ytgoajdnofekcaaa.P05t
