-- Written for this claim by a program of this session, over the kit's print.
import Derived.Test.YtghoifkaikddlaaGreatP19jx0
namespace Go.Proofs.YtghoifkaikddlaaGreat.P19j
open Go.RowKit Go.Proofs.YtghoifkaikddlaaGreatW.PrintWords Go.Proofs.YtghoifkaikddlaaGreatW.PrintLast Go.Proofs.YtghoifkaikddlaaGreatW.PrintMore
attribute [local go_sem] max2_int min2_int max_two min_two max_three min_three max_four min_four   -- for this text's walks alone
set_option linter.unusedVariables false
set_option linter.unusedSimpArgs false

def binderylaw19_QuietJoins.Pure : Prop := True
theorem binderylaw19_QuietJoins.walk (_P : binderylaw19_QuietJoins.Pure) (a0 : ByteArray) (a1 : ByteArray) (a2 : ByteArray) (w : World) (w0 : a0.size ≤ 140737488351232) (w1 : a1.size ≤ 140737488351232) (w2 : a2.size ≤ 140737488351232) :
    Calls Tryz.prog 4 #[.string a0, .string a1, .string a2] w fun e w' => e = .returned (.bool true) ∧ Below w.heap.size w w' :=
  Go.Proofs.YtghoifkaikddlaaGreat.Hand.quietJoins_walk a0 a1 a2 w w0 w1 w2

-- GIVEN by hand: function 4 (binderylaw19_QuietJoins)

end Go.Proofs.YtghoifkaikddlaaGreat.P19j
