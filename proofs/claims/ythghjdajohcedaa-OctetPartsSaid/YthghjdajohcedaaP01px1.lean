-- Written for this claim by a program of this session, over the kit's print.
import Derived.Test.YthghjdajohcedaaP01px0
namespace Go.Proofs.Ythghjdajohcedaa.P01p
open Go.RowKit Go.Proofs.YthghjdajohcedaaW.PrintWords Go.Proofs.YthghjdajohcedaaW.PrintLast Go.Proofs.YthghjdajohcedaaW.PrintMore
attribute [local go_sem] max2_int min2_int max_two min_two max_three min_three max_four min_four   -- for this text's walks alone
set_option linter.unusedVariables false
set_option linter.unusedSimpArgs false

def binderylaw01_OctetParts.Pure : Prop := True
theorem binderylaw01_OctetParts.walk (_P : binderylaw01_OctetParts.Pure) (a0 : ByteArray) (w : World) (w0 : a0.size ≤ 140737488351232) :
    Calls Try.prog 6 #[.string a0] w fun e w' => e = .returned (.bool true) ∧ Below w.heap.size w w' :=
  Go.Proofs.Ythghjdajohcedaa.Hand.octetParts_walk a0 w w0

-- GIVEN by hand: function 6 (binderylaw01_OctetParts)

end Go.Proofs.Ythghjdajohcedaa.P01p
