-- Written for this claim by a program of this session, over the kit's print.
import Derived.Test.YtbgdadehjnifeaaP12cx0
namespace Go.Proofs.Ytbgdadehjnifeaa.P12c
open Go.RowKit Go.Proofs.YtbgdadehjnifeaaW.PrintWords Go.Proofs.YtbgdadehjnifeaaW.PrintLast Go.Proofs.YtbgdadehjnifeaaW.PrintMore
attribute [local go_sem] max2_int min2_int max_two min_two max_three min_three max_four min_four   -- for this text's walks alone
set_option linter.unusedVariables false
set_option linter.unusedSimpArgs false

def binderylaw12_ZwrapBack.Pure : Prop := True
theorem binderylaw12_ZwrapBack.walk (_P : binderylaw12_ZwrapBack.Pure) (a0 : ByteArray) (a1 : Int) (a2 : Int) (a3 : Int) (w : World) (w0 : a0.size ≤ 140737488351232) (w1 : (Lit.int .u16 a1).wf = true) (w2 : (Lit.int .u8 a2).wf = true) (w3 : (Lit.int .u8 a3).wf = true) :
    Calls Try.prog 4 #[.string a0, .int .u16 a1, .int .u8 a2, .int .u8 a3] w fun e w' => e = .returned (.bool true) ∧ Below w.heap.size w w' :=
  Go.Proofs.Ytbgdadehjnifeaa.Hand.zwrapBack_walk a0 a1 a2 a3 w w0 w1 w2 w3

-- GIVEN by hand: function 4 (binderylaw12_ZwrapBack)

end Go.Proofs.Ytbgdadehjnifeaa.P12c
