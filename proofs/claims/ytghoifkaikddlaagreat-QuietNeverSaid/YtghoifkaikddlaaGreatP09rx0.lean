-- Written for this claim by a program of this session, over the kit's print.
import Derived.Test.YtghoifkaikddlaaGreatProg
import Derived.Below
import Derived.Deep.Draws
import Derived.Deep.AppendLies
import Derived.Maps.AppendAt
import Derived.OwnWalk
import Derived.Laws.BytesArg
import Derived.Laws.MakeOwn
import Derived.Laws.OwnMore
import Derived.Deep.OwnRows
import Derived.Tactics
import Derived.Lib.ConvBytes
import Derived.Laws.Slices
import Derived.WalkKit
import Derived.KernelRfl
import Derived.RowKit3
import Derived.Deep.LoopGhost
import Derived.Deep.QuietTactic
import Derived.BigQuiet
import Derived.WideLaws
import Derived.Deep.DeepCutAuto
import Derived.Deep.CutBlock
import Derived.Deep.RegionHeld3
import Derived.Laws.Rows
import Derived.Lib.AppendStr
import Derived.ArgAppend
import Derived.Laws.IdiomCopy
import Derived.OrdersHeld
import Derived.Laws.BitsLemmas
import Derived.RowKit
import Derived.Test.YtghoifkaikddlaaGreatWWords
import Derived.Test.YtghoifkaikddlaaGreatWLast
import Derived.Test.YtghoifkaikddlaaGreatWQPut
import Derived.Test.YtghoifkaikddlaaGreatWApart
import Derived.Test.YtghoifkaikddlaaGreatWArr
import Derived.Test.YtghoifkaikddlaaGreatWZeros
import Derived.Test.YtghoifkaikddlaaGreatWFoot
import Derived.Test.YtghoifkaikddlaaGreatWKept
import Derived.Test.YtghoifkaikddlaaGreatWShare
import Derived.Test.YtghoifkaikddlaaGreatWN
import Derived.Test.YtghoifkaikddlaaGreatWEqStruct
import Derived.Test.YtghoifkaikddlaaGreatWRepsOne
import Derived.Test.YtghoifkaikddlaaGreatWNEv
import Derived.Test.YtghoifkaikddlaaGreatWMore
namespace Go.Proofs.YtghoifkaikddlaaGreat.P09r
open Go.RowKit Go.Proofs.YtghoifkaikddlaaGreatW.PrintWords Go.Proofs.YtghoifkaikddlaaGreatW.PrintLast Go.Proofs.YtghoifkaikddlaaGreatW.PrintMore
attribute [local go_sem] max2_int min2_int max_two min_two max_three min_three max_four min_four   -- for this text's walks alone
set_option linter.unusedVariables false
set_option linter.unusedSimpArgs false
def errW : Option Int → Value
 | none => .nilIface
 | some c => .iface 0 (.int .i64 c)
theorem errW_none : errW none = .nilIface := rfl
theorem errW_some (c : Int) : errW (some c) = .iface 0 (.int .i64 c) := rfl
end Go.Proofs.YtghoifkaikddlaaGreat.P09r
