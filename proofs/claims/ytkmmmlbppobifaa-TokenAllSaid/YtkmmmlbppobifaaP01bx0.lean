-- Written for this claim by a program of this session, over the kit's print.
import Derived.Test.YtkmmmlbppobifaaProg
import Derived.Below
import Derived.Deep.Draws
import Derived.Deep.AppendLies
import Derived.Maps.AppendAt
import Derived.OwnWalk
import Derived.Laws.BytesArg
import Derived.Laws.MakeOwn
import Derived.Laws.OwnMore
import Derived.Deep.OwnRows
import Derived.Tactics
import Derived.Lib.ConvBytes
import Derived.Laws.Slices
import Derived.WalkKit
import Derived.KernelRfl
import Derived.RowKit3
import Derived.Deep.LoopGhost
import Derived.Deep.QuietTactic
import Derived.BigQuiet
import Derived.WideLaws
import Derived.Deep.DeepCutAuto
import Derived.Deep.CutBlock
import Derived.Deep.RegionHeld3
import Derived.Laws.Rows
import Derived.Lib.AppendStr
import Derived.ArgAppend
import Derived.Laws.IdiomCopy
import Derived.OrdersHeld
import Derived.Laws.BitsLemmas
import Derived.RowKit
import Derived.Test.YtkmmmlbppobifaaWWords
import Derived.Test.YtkmmmlbppobifaaWLast
import Derived.Test.YtkmmmlbppobifaaWQPut
import Derived.Test.YtkmmmlbppobifaaWApart
import Derived.Test.YtkmmmlbppobifaaWArr
import Derived.Test.YtkmmmlbppobifaaWZeros
import Derived.Test.YtkmmmlbppobifaaWFoot
import Derived.Test.YtkmmmlbppobifaaWKept
import Derived.Test.YtkmmmlbppobifaaWShare
import Derived.Test.YtkmmmlbppobifaaWN
import Derived.Test.YtkmmmlbppobifaaWEqStruct
import Derived.Test.YtkmmmlbppobifaaWRepsOne
import Derived.Test.YtkmmmlbppobifaaWNEv
import Derived.Test.YtkmmmlbppobifaaWMore
namespace Go.Proofs.Ytkmmmlbppobifaa.P01b
open Go.RowKit Go.Proofs.YtkmmmlbppobifaaW.PrintWords Go.Proofs.YtkmmmlbppobifaaW.PrintLast Go.Proofs.YtkmmmlbppobifaaW.PrintMore
attribute [local go_sem] max2_int min2_int max_two min_two max_three min_three max_four min_four   -- for this text's walks alone
set_option linter.unusedVariables false
set_option linter.unusedSimpArgs false
def errW : Option Int → Value
 | none => .nilIface
 | some c => .iface 0 (.int .i64 c)
theorem errW_none : errW none = .nilIface := rfl
theorem errW_some (c : Int) : errW (some c) = .iface 0 (.int .i64 c) := rfl

-- the values' own types
end Go.Proofs.Ytkmmmlbppobifaa.P01b
