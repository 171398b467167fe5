-- Written for this claim by a program of this session, over the kit's print.
import Derived.Test.YtfoicjlkbkjfjaaP09rx0
import Derived.Test.YtfoicjlkbkjfjaaP09rx1
import Derived.Test.YtfoicjlkbkjfjaaP09rx2
namespace Go.Proofs.Ytfoicjlkbkjfjaa.P09r
open Go.RowKit Go.Proofs.YtfoicjlkbkjfjaaW.PrintWords Go.Proofs.YtfoicjlkbkjfjaaW.PrintLast Go.Proofs.YtfoicjlkbkjfjaaW.PrintMore
attribute [local go_sem] max2_int min2_int max_two min_two max_three min_three max_four min_four   -- for this text's walks alone
set_option linter.unusedVariables false
set_option linter.unusedSimpArgs false

end Go.Proofs.Ytfoicjlkbkjfjaa.P09r
