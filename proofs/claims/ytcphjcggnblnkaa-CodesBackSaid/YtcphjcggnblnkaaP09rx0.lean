-- Written for this claim by a program of this session, over the kit's print.
import Derived.Test.YtcphjcggnblnkaaProg
import Derived.Below
import Derived.Deep.Draws
import Derived.Deep.AppendLies
import Derived.Maps.AppendAt
import Derived.OwnWalk
import Derived.Laws.BytesArg
import Derived.Laws.MakeOwn
import Derived.Laws.OwnMore
import Derived.Deep.OwnRows
import Derived.Tactics
import Derived.Lib.ConvBytes
import Derived.Laws.Slices
import Derived.WalkKit
import Derived.KernelRfl
import Derived.RowKit3
import Derived.Deep.LoopGhost
import Derived.Deep.QuietTactic
import Derived.BigQuiet
import Derived.WideLaws
import Derived.Deep.DeepCutAuto
import Derived.Deep.CutBlock
import Derived.Deep.RegionHeld3
import Derived.Laws.Rows
import Derived.Lib.AppendStr
import Derived.ArgAppend
import Derived.Laws.IdiomCopy
import Derived.OrdersHeld
import Derived.Laws.BitsLemmas
import Derived.RowKit
import Derived.Test.YtcphjcggnblnkaaWWords
import Derived.Test.YtcphjcggnblnkaaWLast
import Derived.Test.YtcphjcggnblnkaaWTab
import Derived.Test.YtcphjcggnblnkaaWFour
import Derived.Test.YtcphjcggnblnkaaWQPut
import Derived.Test.YtcphjcggnblnkaaWApart
import Derived.Test.YtcphjcggnblnkaaWArr
import Derived.Test.YtcphjcggnblnkaaWZeros
import Derived.Test.YtcphjcggnblnkaaWFoot
import Derived.Test.YtcphjcggnblnkaaWKept
import Derived.Test.YtcphjcggnblnkaaWShare
import Derived.Test.YtcphjcggnblnkaaWN
import Derived.Test.YtcphjcggnblnkaaWFootNe
import Derived.Test.YtcphjcggnblnkaaWAt
import Derived.Test.YtcphjcggnblnkaaWEqStruct
import Derived.Test.YtcphjcggnblnkaaWRepsOne
import Derived.Test.YtcphjcggnblnkaaWInv
import Derived.Test.YtcphjcggnblnkaaWInvWords
import Derived.Test.YtcphjcggnblnkaaWGuard
import Derived.Test.YtcphjcggnblnkaaWNEv
import Derived.Test.YtcphjcggnblnkaaWMore
namespace Go.Proofs.Ytcphjcggnblnkaa.P09r
open Go.RowKit Go.Proofs.YtcphjcggnblnkaaW.PrintWords Go.Proofs.YtcphjcggnblnkaaW.PrintLast Go.Proofs.YtcphjcggnblnkaaW.PrintMore
attribute [local go_sem] max2_int min2_int max_two min_two max_three min_three max_four min_four   -- for this text's walks alone
set_option linter.unusedVariables false
set_option linter.unusedSimpArgs false



def errW : Option Int → Value
  | none => .nilIface
  | some c => .iface 0 (.int .i64 c)
theorem errW_none : errW none = .nilIface := rfl
theorem errW_some (c : Int) : errW (some c) = .iface 0 (.int .i64 c) := rfl

theorem info3 : (Try.prog.info? 3).map (fun i => (i.zero, i.size, i.bytes)) = some (some (.int .i64 0), 1, 8) := by kernel_rfl
-- the values' own types

end Go.Proofs.Ytcphjcggnblnkaa.P09r
