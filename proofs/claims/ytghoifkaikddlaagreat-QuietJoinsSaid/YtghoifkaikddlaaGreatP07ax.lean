-- Written for this claim by a program of this session, over the kit's print.
import Derived.Test.YtghoifkaikddlaaGreatP07ax0
import Derived.Test.YtghoifkaikddlaaGreatP07ax1
namespace Go.Proofs.YtghoifkaikddlaaGreat.P07a
open Go.RowKit Go.Proofs.YtghoifkaikddlaaGreatW.PrintWords Go.Proofs.YtghoifkaikddlaaGreatW.PrintLast Go.Proofs.YtghoifkaikddlaaGreatW.PrintMore
attribute [local go_sem] max2_int min2_int max_two min_two max_three min_three max_four min_four   -- for this text's walks alone
set_option linter.unusedVariables false
set_option linter.unusedSimpArgs false

end Go.Proofs.YtghoifkaikddlaaGreat.P07a
