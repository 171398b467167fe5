-- Written for this claim by a program of this session, over the kit's print.
import Derived.Test.YtgoajdnofekcaaaProg
import Derived.Below
import Derived.Deep.Draws
import Derived.Deep.AppendLies
import Derived.Maps.AppendAt
import Derived.OwnWalk
import Derived.Laws.BytesArg
import Derived.Laws.MakeOwn
import Derived.Laws.OwnMore
import Derived.Deep.OwnRows
import Derived.Tactics
import Derived.Lib.ConvBytes
import Derived.Laws.Slices
import Derived.WalkKit
import Derived.KernelRfl
import Derived.RowKit3
import Derived.Deep.LoopGhost
import Derived.Deep.QuietTactic
import Derived.BigQuiet
import Derived.WideLaws
import Derived.Deep.DeepCutAuto
import Derived.Deep.CutBlock
import Derived.Deep.RegionHeld3
import Derived.Laws.Rows
import Derived.Lib.AppendStr
import Derived.ArgAppend
import Derived.Laws.IdiomCopy
import Derived.OrdersHeld
import Derived.Laws.BitsLemmas
import Derived.RowKit
import Derived.Test.YtgoajdnofekcaaaHand13d
import Derived.Test.YtgoajdnofekcaaaHand13e
import Derived.Test.YtgoajdnofekcaaaWWords
import Derived.Test.YtgoajdnofekcaaaWLast
import Derived.Test.YtgoajdnofekcaaaWTab
import Derived.Test.YtgoajdnofekcaaaWFour
import Derived.Test.YtgoajdnofekcaaaWQPut
import Derived.Test.YtgoajdnofekcaaaWApart
import Derived.Test.YtgoajdnofekcaaaWArr
import Derived.Test.YtgoajdnofekcaaaWZeros
import Derived.Test.YtgoajdnofekcaaaWFoot
import Derived.Test.YtgoajdnofekcaaaWKept
import Derived.Test.YtgoajdnofekcaaaWShare
import Derived.Test.YtgoajdnofekcaaaWN
import Derived.Test.YtgoajdnofekcaaaWFootNe
import Derived.Test.YtgoajdnofekcaaaWAt
import Derived.Test.YtgoajdnofekcaaaWEqStruct
import Derived.Test.YtgoajdnofekcaaaWRepsOne
import Derived.Test.YtgoajdnofekcaaaWInv
import Derived.Test.YtgoajdnofekcaaaWInvWords
import Derived.Test.YtgoajdnofekcaaaWGuard
import Derived.Test.YtgoajdnofekcaaaWNEv
import Derived.Test.YtgoajdnofekcaaaWMore
namespace Go.Proofs.Ytgoajdnofekcaaa.P13
open Go.RowKit Go.Proofs.YtgoajdnofekcaaaW.PrintWords Go.Proofs.YtgoajdnofekcaaaW.PrintLast Go.Proofs.YtgoajdnofekcaaaW.PrintMore Go.Proofs.Ytgoajdnofekcaaa.Hand
attribute [local go_sem] max2_int min2_int max_two min_two max_three min_three max_four min_four   -- for this text's walks alone
set_option linter.unusedVariables false
set_option linter.unusedSimpArgs false



def errW : Option Int → Value
  | none => .nilIface
  | some c => .iface 0 (.int .i64 c)
theorem errW_none : errW none = .nilIface := rfl
theorem errW_some (c : Int) : errW (some c) = .iface 0 (.int .i64 c) := rfl

theorem info5 : (Try.prog.info? 5).map (fun i => (i.zero, i.size, i.bytes)) = some (some (.int .u8 0), 1, 1) := by kernel_rfl
-- the values' own types

end Go.Proofs.Ytgoajdnofekcaaa.P13
