-- Written for this claim by a program of this session, over the kit's print.
import Derived.Test.YthghjdajohcedaaP06wx0
import Derived.Test.YthghjdajohcedaaP06wx1
namespace Go.Proofs.Ythghjdajohcedaa.P06w
open Go.RowKit Go.Proofs.YthghjdajohcedaaW.PrintWords Go.Proofs.YthghjdajohcedaaW.PrintLast Go.Proofs.YthghjdajohcedaaW.PrintMore Go.Proofs.Ythghjdajohcedaa.Hand
attribute [local go_sem] max2_int min2_int max_two min_two max_three min_three max_four min_four   -- for this text's walks alone
set_option linter.unusedVariables false
set_option linter.unusedSimpArgs false

end Go.Proofs.Ythghjdajohcedaa.P06w
