-- Written for this claim by a program of this session, over the kit's print.
import Derived.Test.YtfoicjlkbkjfjaaProg
import Derived.Below
import Derived.Deep.Draws
import Derived.Deep.AppendLies
import Derived.Maps.AppendAt
import Derived.OwnWalk
import Derived.Laws.BytesArg
import Derived.Laws.MakeOwn
import Derived.Laws.OwnMore
import Derived.Deep.OwnRows
import Derived.Tactics
import Derived.Lib.ConvBytes
import Derived.Laws.Slices
import Derived.WalkKit
import Derived.KernelRfl
import Derived.RowKit3
import Derived.Deep.LoopGhost
import Derived.Deep.QuietTactic
import Derived.BigQuiet
import Derived.WideLaws
import Derived.Deep.DeepCutAuto
import Derived.Deep.CutBlock
import Derived.Deep.RegionHeld3
import Derived.Laws.Rows
import Derived.Lib.AppendStr
import Derived.ArgAppend
import Derived.Laws.IdiomCopy
import Derived.OrdersHeld
import Derived.Laws.BitsLemmas
import Derived.RowKit
import Derived.Test.YtfoicjlkbkjfjaaP08x1
import Derived.Test.YtfoicjlkbkjfjaaP09rx1
import Derived.Test.YtfoicjlkbkjfjaaP09rx2
import Derived.Test.YtfoicjlkbkjfjaaWWords
import Derived.Test.YtfoicjlkbkjfjaaWLast
import Derived.Test.YtfoicjlkbkjfjaaWQPut
import Derived.Test.YtfoicjlkbkjfjaaWApart
import Derived.Test.YtfoicjlkbkjfjaaWArr
import Derived.Test.YtfoicjlkbkjfjaaWZeros
import Derived.Test.YtfoicjlkbkjfjaaWFoot
import Derived.Test.YtfoicjlkbkjfjaaWKept
import Derived.Test.YtfoicjlkbkjfjaaWShare
import Derived.Test.YtfoicjlkbkjfjaaWN
import Derived.Test.YtfoicjlkbkjfjaaWRepsOne
import Derived.Test.YtfoicjlkbkjfjaaWNEv
import Derived.Test.YtfoicjlkbkjfjaaWMore
namespace Go.Proofs.Ytfoicjlkbkjfjaa.P10n
open Go.RowKit Go.Proofs.YtfoicjlkbkjfjaaW.PrintWords Go.Proofs.YtfoicjlkbkjfjaaW.PrintLast Go.Proofs.YtfoicjlkbkjfjaaW.PrintMore Go.Proofs.Ytfoicjlkbkjfjaa.P08 Go.Proofs.Ytfoicjlkbkjfjaa.P09r
attribute [local go_sem] max2_int min2_int max_two min_two max_three min_three max_four min_four   -- for this text's walks alone
set_option linter.unusedVariables false
set_option linter.unusedSimpArgs false
def errW : Option Int → Value
 | none => .nilIface
 | some c => .iface 0 (.int .i64 c)
theorem errW_none : errW none = .nilIface := rfl
theorem errW_some (c : Int) : errW (some c) = .iface 0 (.int .i64 c) := rfl
theorem info3 : (Try.prog.info? 3).map (fun i => (i.zero, i.size, i.bytes)) = some (some (.int .i64 0), 1, 8) := by kernel_rfl
-- the values' own types
end Go.Proofs.Ytfoicjlkbkjfjaa.P10n
