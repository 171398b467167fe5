-- Written for this claim by a program of this session, over the kit's print.
import Derived.Test.YtbgdadehjnifeaaGreatProg
import Derived.Below
import Derived.Deep.Draws
import Derived.Deep.AppendLies
import Derived.Maps.AppendAt
import Derived.OwnWalk
import Derived.Laws.BytesArg
import Derived.Laws.MakeOwn
import Derived.Laws.OwnMore
import Derived.Deep.OwnRows
import Derived.Tactics
import Derived.Lib.ConvBytes
import Derived.Laws.Slices
import Derived.WalkKit
import Derived.KernelRfl
import Derived.RowKit3
import Derived.Deep.LoopGhost
import Derived.Deep.QuietTactic
import Derived.BigQuiet
import Derived.WideLaws
import Derived.Deep.DeepCutAuto
import Derived.Deep.CutBlock
import Derived.Deep.RegionHeld3
import Derived.Laws.Rows
import Derived.Lib.AppendStr
import Derived.ArgAppend
import Derived.Laws.IdiomCopy
import Derived.OrdersHeld
import Derived.Laws.BitsLemmas
import Derived.RowKit
import Derived.Test.YtbgdadehjnifeaaGreatWWords
import Derived.Test.YtbgdadehjnifeaaGreatWLast
import Derived.Test.YtbgdadehjnifeaaGreatWQPut
import Derived.Test.YtbgdadehjnifeaaGreatWApart
import Derived.Test.YtbgdadehjnifeaaGreatWArr
import Derived.Test.YtbgdadehjnifeaaGreatWZeros
import Derived.Test.YtbgdadehjnifeaaGreatWFoot
import Derived.Test.YtbgdadehjnifeaaGreatWKept
import Derived.Test.YtbgdadehjnifeaaGreatWShare
import Derived.Test.YtbgdadehjnifeaaGreatWN
import Derived.Test.YtbgdadehjnifeaaGreatWRepsOne
import Derived.Test.YtbgdadehjnifeaaGreatWNEv
import Derived.Test.YtbgdadehjnifeaaGreatWMore
namespace Go.Proofs.YtbgdadehjnifeaaGreat.P12t
open Go.RowKit Go.Proofs.YtbgdadehjnifeaaGreatW.PrintWords Go.Proofs.YtbgdadehjnifeaaGreatW.PrintLast Go.Proofs.YtbgdadehjnifeaaGreatW.PrintMore
attribute [local go_sem] max2_int min2_int max_two min_two max_three min_three max_four min_four   -- for this text's walks alone
set_option linter.unusedVariables false
set_option linter.unusedSimpArgs false
def errW : Option Int → Value
 | none => .nilIface
 | some c => .iface 0 (.int .i64 c)
theorem errW_none : errW none = .nilIface := rfl
theorem errW_some (c : Int) : errW (some c) = .iface 0 (.int .i64 c) := rfl
end Go.Proofs.YtbgdadehjnifeaaGreat.P12t
