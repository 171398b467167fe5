/-
  No cell of these rows narrows 'for every input' (looked for: loops, veiled, ifaces, maps, wideKeys, modest, calm, conditions, laid).
  DERIVED. THE GIVEN ROWS OF THIS SEAT. 11 by the template 'for every input the law returns true; each argument reads behind the call as it read before'; 0 by the template 'total and deterministic' (their statements: YtgoajdnofekcaaaTotals.lean).
  GIVEN WITH THE SEED: the statements are not yours to turn. If you find one false, say at which input.
  Laid BY PROGRAM, IN A SANDBOX (cutbox-rows.mjs): the forced cells as the released guide's own fill.sh prints them over the translation da282877b1a47772… (all of the seat's roots in one cut). By AI agents, Wed Nov 11 2026. No macro, syntax, notation, axiom, sorry.
-/
import Derived.Test.YtgoajdnofekcaaaChecked
import GoSem.Claim
import GoSem.ClaimJoined
import GoSem.ClaimMapViews
import Derived.JoinedTies
import Derived.KernelRfl
namespace Go.Proofs.Ytgoajdnofekcaaa
/- THE CELL 'sum', in the pinned program and in every row, IS THE sha256 OF THE DUMP (.gsa) THAT YtgoajdnofekcaaaProg.lean LOADS. Nothing in Lean hashes anything: it is a label: what it is worth is what the hold of that sum in a sandbox is worth. -/
noncomputable def Try.pinned : Pinned := { name := "ytgoajdnofekcaaa", sum := "da282877b1a47772f6268cdd872f74fd74b0c9a760d6976a97618e8982741745", checked := Try.checked }
namespace Rows
def none {H : Type} : Left H := { results := [], args := [] }

/-- 'binderylaw05.AdlerSums': WHATEVER THE INPUT: true; the input reads as it did. -/
def adlerSumsSpec : ChangeSpec := { name := "adlerSums", fn := fun _ => fun
  | [d] => { results := [.lit (.bool true)], args := [d] }
  | _ => none }
def adlerSumsRow : OpenClaim := { program := "ytgoajdnofekcaaa", sum := "da282877b1a47772f6268cdd872f74fd74b0c9a760d6976a97618e8982741745", func := "bindery/binderylaw05.AdlerSums", spec := "adlerSums", apart := false }
def AdlerSumsSaid : Prop := adlerSumsRow.holds Try.pinned (OpenSpec.ofChange adlerSumsSpec)

/-- ITS FALSE NEIGHBOUR: 'it returns false'. Refute it at one input. -/
def adlerSumsWrong : ChangeSpec := { name := "adlerSums", fn := fun _ => fun
  | [d] => { results := [.lit (.bool false)], args := [d] }
  | _ => none }
def AdlerSumsWrongFalsely : Prop := adlerSumsRow.holds Try.pinned (OpenSpec.ofChange adlerSumsWrong)

/-- 'binderylaw05.AdlerMore': WHATEVER THE INPUT: true; the input reads as it did. -/
def adlerMoreSpec : ChangeSpec := { name := "adlerMore", fn := fun _ => fun
  | [d1, d2, d3, d4] => { results := [.lit (.bool true)], args := [d1, d2, d3, d4] }
  | _ => none }
def adlerMoreRow : OpenClaim := { program := "ytgoajdnofekcaaa", sum := "da282877b1a47772f6268cdd872f74fd74b0c9a760d6976a97618e8982741745", func := "bindery/binderylaw05.AdlerMore", spec := "adlerMore", apart := false }
def AdlerMoreSaid : Prop := adlerMoreRow.holds Try.pinned (OpenSpec.ofChange adlerMoreSpec)

/-- ITS FALSE NEIGHBOUR: 'it returns false'. Refute it at one input. -/
def adlerMoreWrong : ChangeSpec := { name := "adlerMore", fn := fun _ => fun
  | [d1, d2, d3, d4] => { results := [.lit (.bool false)], args := [d1, d2, d3, d4] }
  | _ => none }
def AdlerMoreWrongFalsely : Prop := adlerMoreRow.holds Try.pinned (OpenSpec.ofChange adlerMoreWrong)

/-- 'binderylaw05.AdlerJoins': WHATEVER THE INPUT: true; the input reads as it did. -/
def adlerJoinsSpec : ChangeSpec := { name := "adlerJoins", fn := fun _ => fun
  | [d1, d2, d3] => { results := [.lit (.bool true)], args := [d1, d2, d3] }
  | _ => none }
def adlerJoinsRow : OpenClaim := { program := "ytgoajdnofekcaaa", sum := "da282877b1a47772f6268cdd872f74fd74b0c9a760d6976a97618e8982741745", func := "bindery/binderylaw05.AdlerJoins", spec := "adlerJoins", apart := false }
def AdlerJoinsSaid : Prop := adlerJoinsRow.holds Try.pinned (OpenSpec.ofChange adlerJoinsSpec)

/-- ITS FALSE NEIGHBOUR: 'it returns false'. Refute it at one input. -/
def adlerJoinsWrong : ChangeSpec := { name := "adlerJoins", fn := fun _ => fun
  | [d1, d2, d3] => { results := [.lit (.bool false)], args := [d1, d2, d3] }
  | _ => none }
def AdlerJoinsWrongFalsely : Prop := adlerJoinsRow.holds Try.pinned (OpenSpec.ofChange adlerJoinsWrong)

/-- 'binderylaw05.AdlerTurned': WHATEVER THE INPUT: true; the input reads as it did. -/
def adlerTurnedSpec : ChangeSpec := { name := "adlerTurned", fn := fun _ => fun
  | [d1, d2, d3] => { results := [.lit (.bool true)], args := [d1, d2, d3] }
  | _ => none }
def adlerTurnedRow : OpenClaim := { program := "ytgoajdnofekcaaa", sum := "da282877b1a47772f6268cdd872f74fd74b0c9a760d6976a97618e8982741745", func := "bindery/binderylaw05.AdlerTurned", spec := "adlerTurned", apart := false }
def AdlerTurnedSaid : Prop := adlerTurnedRow.holds Try.pinned (OpenSpec.ofChange adlerTurnedSpec)

/-- ITS FALSE NEIGHBOUR: 'it returns false'. Refute it at one input. -/
def adlerTurnedWrong : ChangeSpec := { name := "adlerTurned", fn := fun _ => fun
  | [d1, d2, d3] => { results := [.lit (.bool false)], args := [d1, d2, d3] }
  | _ => none }
def AdlerTurnedWrongFalsely : Prop := adlerTurnedRow.holds Try.pinned (OpenSpec.ofChange adlerTurnedWrong)

/-- 'binderylaw07.RunsEncodes': WHATEVER THE INPUT: true; the input reads as it did. -/
def runsEncodesSpec : ChangeSpec := { name := "runsEncodes", fn := fun _ => fun
  | [d] => { results := [.lit (.bool true)], args := [d] }
  | _ => none }
def runsEncodesRow : OpenClaim := { program := "ytgoajdnofekcaaa", sum := "da282877b1a47772f6268cdd872f74fd74b0c9a760d6976a97618e8982741745", func := "bindery/binderylaw07.RunsEncodes", spec := "runsEncodes", unfollowed := true, recurses := true, apart := false }
def RunsEncodesSaid : Prop := runsEncodesRow.holds Try.pinned (OpenSpec.ofChange runsEncodesSpec)

/-- ITS FALSE NEIGHBOUR: 'it returns false'. Refute it at one input. -/
def runsEncodesWrong : ChangeSpec := { name := "runsEncodes", fn := fun _ => fun
  | [d] => { results := [.lit (.bool false)], args := [d] }
  | _ => none }
def RunsEncodesWrongFalsely : Prop := runsEncodesRow.holds Try.pinned (OpenSpec.ofChange runsEncodesWrong)

/-- 'binderylaw07.RunsDecodes': WHATEVER THE INPUT: true; the input reads as it did. -/
def runsDecodesSpec : ChangeSpec := { name := "runsDecodes", fn := fun _ => fun
  | [d1, d2] => { results := [.lit (.bool true)], args := [d1, d2] }
  | _ => none }
def runsDecodesRow : OpenClaim := { program := "ytgoajdnofekcaaa", sum := "da282877b1a47772f6268cdd872f74fd74b0c9a760d6976a97618e8982741745", func := "bindery/binderylaw07.RunsDecodes", spec := "runsDecodes", unfollowed := true, recurses := true, apart := false }
def RunsDecodesSaid : Prop := runsDecodesRow.holds Try.pinned (OpenSpec.ofChange runsDecodesSpec)

/-- ITS FALSE NEIGHBOUR: 'it returns false'. Refute it at one input. -/
def runsDecodesWrong : ChangeSpec := { name := "runsDecodes", fn := fun _ => fun
  | [d1, d2] => { results := [.lit (.bool false)], args := [d1, d2] }
  | _ => none }
def RunsDecodesWrongFalsely : Prop := runsDecodesRow.holds Try.pinned (OpenSpec.ofChange runsDecodesWrong)

/-- 'binderylaw07.RunsBack': WHATEVER THE INPUT: true; the input reads as it did. -/
def runsBackSpec : ChangeSpec := { name := "runsBack", fn := fun _ => fun
  | [d] => { results := [.lit (.bool true)], args := [d] }
  | _ => none }
def runsBackRow : OpenClaim := { program := "ytgoajdnofekcaaa", sum := "da282877b1a47772f6268cdd872f74fd74b0c9a760d6976a97618e8982741745", func := "bindery/binderylaw07.RunsBack", spec := "runsBack", unfollowed := true, recurses := true, apart := false }
def RunsBackSaid : Prop := runsBackRow.holds Try.pinned (OpenSpec.ofChange runsBackSpec)

/-- ITS FALSE NEIGHBOUR: 'it returns false'. Refute it at one input. -/
def runsBackWrong : ChangeSpec := { name := "runsBack", fn := fun _ => fun
  | [d] => { results := [.lit (.bool false)], args := [d] }
  | _ => none }
def RunsBackWrongFalsely : Prop := runsBackRow.holds Try.pinned (OpenSpec.ofChange runsBackWrong)

/-- 'binderylaw07.RunsShort': WHATEVER THE INPUT: true; the input reads as it did. -/
def runsShortSpec : ChangeSpec := { name := "runsShort", fn := fun _ => fun
  | [d1, d2, d3] => { results := [.lit (.bool true)], args := [d1, d2, d3] }
  | _ => none }
def runsShortRow : OpenClaim := { program := "ytgoajdnofekcaaa", sum := "da282877b1a47772f6268cdd872f74fd74b0c9a760d6976a97618e8982741745", func := "bindery/binderylaw07.RunsShort", spec := "runsShort", unfollowed := true, recurses := true, apart := false }
def RunsShortSaid : Prop := runsShortRow.holds Try.pinned (OpenSpec.ofChange runsShortSpec)

/-- ITS FALSE NEIGHBOUR: 'it returns false'. Refute it at one input. -/
def runsShortWrong : ChangeSpec := { name := "runsShort", fn := fun _ => fun
  | [d1, d2, d3] => { results := [.lit (.bool false)], args := [d1, d2, d3] }
  | _ => none }
def RunsShortWrongFalsely : Prop := runsShortRow.holds Try.pinned (OpenSpec.ofChange runsShortWrong)

/-- 'binderylaw13.PredictEncodes': WHATEVER THE INPUT: true; the input reads as it did. -/
def predictEncodesSpec : ChangeSpec := { name := "predictEncodes", fn := fun _ => fun
  | [d1, d2] => { results := [.lit (.bool true)], args := [d1, d2] }
  | _ => none }
def predictEncodesRow : OpenClaim := { program := "ytgoajdnofekcaaa", sum := "da282877b1a47772f6268cdd872f74fd74b0c9a760d6976a97618e8982741745", func := "bindery/binderylaw13.PredictEncodes", spec := "predictEncodes", apart := false }
def PredictEncodesSaid : Prop := predictEncodesRow.holds Try.pinned (OpenSpec.ofChange predictEncodesSpec)

/-- ITS FALSE NEIGHBOUR: 'it returns false'. Refute it at one input. -/
def predictEncodesWrong : ChangeSpec := { name := "predictEncodes", fn := fun _ => fun
  | [d1, d2] => { results := [.lit (.bool false)], args := [d1, d2] }
  | _ => none }
def PredictEncodesWrongFalsely : Prop := predictEncodesRow.holds Try.pinned (OpenSpec.ofChange predictEncodesWrong)

/-- 'binderylaw13.PredictDecodes': WHATEVER THE INPUT: true; the input reads as it did. -/
def predictDecodesSpec : ChangeSpec := { name := "predictDecodes", fn := fun _ => fun
  | [d1, d2] => { results := [.lit (.bool true)], args := [d1, d2] }
  | _ => none }
def predictDecodesRow : OpenClaim := { program := "ytgoajdnofekcaaa", sum := "da282877b1a47772f6268cdd872f74fd74b0c9a760d6976a97618e8982741745", func := "bindery/binderylaw13.PredictDecodes", spec := "predictDecodes", apart := false }
def PredictDecodesSaid : Prop := predictDecodesRow.holds Try.pinned (OpenSpec.ofChange predictDecodesSpec)

/-- ITS FALSE NEIGHBOUR: 'it returns false'. Refute it at one input. -/
def predictDecodesWrong : ChangeSpec := { name := "predictDecodes", fn := fun _ => fun
  | [d1, d2] => { results := [.lit (.bool false)], args := [d1, d2] }
  | _ => none }
def PredictDecodesWrongFalsely : Prop := predictDecodesRow.holds Try.pinned (OpenSpec.ofChange predictDecodesWrong)

/-- 'binderylaw13.PredictBack': WHATEVER THE INPUT: true; the input reads as it did. -/
def predictBackSpec : ChangeSpec := { name := "predictBack", fn := fun _ => fun
  | [d1, d2] => { results := [.lit (.bool true)], args := [d1, d2] }
  | _ => none }
def predictBackRow : OpenClaim := { program := "ytgoajdnofekcaaa", sum := "da282877b1a47772f6268cdd872f74fd74b0c9a760d6976a97618e8982741745", func := "bindery/binderylaw13.PredictBack", spec := "predictBack", apart := false }
def PredictBackSaid : Prop := predictBackRow.holds Try.pinned (OpenSpec.ofChange predictBackSpec)

/-- ITS FALSE NEIGHBOUR: 'it returns false'. Refute it at one input. -/
def predictBackWrong : ChangeSpec := { name := "predictBack", fn := fun _ => fun
  | [d1, d2] => { results := [.lit (.bool false)], args := [d1, d2] }
  | _ => none }
def PredictBackWrongFalsely : Prop := predictBackRow.holds Try.pinned (OpenSpec.ofChange predictBackWrong)

/- THE SECOND FORM. 'bulk': how many values and letters a reading holds, each counted each time it is reached (what is shared counts as often as it is met; a slice's spare places count too). A statement '..UptoSaid' is the law's where the arguments, and the package variables that the reading takes, are together of bulk at most 1048576: NARROWER than '..Said'. Prove '..Said' where nothing that the law and all that it calls make is longer than what came in: it says more and counts as full. Else prove '..UptoSaid'. A law counts once. -/
mutual
def uptoBulk {H : Type} : DataW H → Nat
  | .lit (.string bytes) => bytes.length + 1
  | .lit _ => 1
  | .nil => 1
  | .ptr d => uptoBulk d + 1
  | .slice elems spare => uptoBulkAll elems + uptoBulkAll spare + 1
  | .agg parts => uptoBulkAll parts + 1
  | .iface _ d => uptoBulk d + 1
  | .map entries => uptoBulkEntries entries + 1
  | .held _ => 1
def uptoBulkAll {H : Type} : List (DataW H) → Nat
  | [] => 0
  | d :: r => uptoBulk d + uptoBulkAll r
def uptoBulkEntries {H : Type} : List (Lit × DataW H) → Nat
  | [] => 0
  | x :: r => uptoBulkEntry x + uptoBulkEntries r
def uptoBulkEntry {H : Type} : Lit × DataW H → Nat
  | (.string bytes, d) => bytes.length + uptoBulk d + 1
  | (_, d) => uptoBulk d + 1
 end
def uptoSmall : (H : Type) → List (DataW H) → Bool := fun _ ds => decide (uptoBulkAll ds ≤ 1048576)
def OpenSpec.upto (s : _root_.Go.ChangeSpec) : _root_.Go.OpenSpec := { _root_.Go.OpenSpec.ofChange s with cond := some uptoSmall }

/-- 'binderylaw05.AdlerSums', WHERE WHAT IT READS IS OF BULK AT MOST 1048576: true; the input reads as it did. -/
def adlerSumsUptoRow : OpenClaim := { program := "ytgoajdnofekcaaa", sum := "da282877b1a47772f6268cdd872f74fd74b0c9a760d6976a97618e8982741745", func := "bindery/binderylaw05.AdlerSums", spec := "adlerSums", apart := false, narrowed := true }
def AdlerSumsUptoSaid : Prop := adlerSumsUptoRow.holds Try.pinned (OpenSpec.upto adlerSumsSpec)

/-- 'binderylaw05.AdlerMore', WHERE WHAT IT READS IS OF BULK AT MOST 1048576: true; the input reads as it did. -/
def adlerMoreUptoRow : OpenClaim := { program := "ytgoajdnofekcaaa", sum := "da282877b1a47772f6268cdd872f74fd74b0c9a760d6976a97618e8982741745", func := "bindery/binderylaw05.AdlerMore", spec := "adlerMore", apart := false, narrowed := true }
def AdlerMoreUptoSaid : Prop := adlerMoreUptoRow.holds Try.pinned (OpenSpec.upto adlerMoreSpec)

/-- 'binderylaw05.AdlerJoins', WHERE WHAT IT READS IS OF BULK AT MOST 1048576: true; the input reads as it did. -/
def adlerJoinsUptoRow : OpenClaim := { program := "ytgoajdnofekcaaa", sum := "da282877b1a47772f6268cdd872f74fd74b0c9a760d6976a97618e8982741745", func := "bindery/binderylaw05.AdlerJoins", spec := "adlerJoins", apart := false, narrowed := true }
def AdlerJoinsUptoSaid : Prop := adlerJoinsUptoRow.holds Try.pinned (OpenSpec.upto adlerJoinsSpec)

/-- 'binderylaw05.AdlerTurned', WHERE WHAT IT READS IS OF BULK AT MOST 1048576: true; the input reads as it did. -/
def adlerTurnedUptoRow : OpenClaim := { program := "ytgoajdnofekcaaa", sum := "da282877b1a47772f6268cdd872f74fd74b0c9a760d6976a97618e8982741745", func := "bindery/binderylaw05.AdlerTurned", spec := "adlerTurned", apart := false, narrowed := true }
def AdlerTurnedUptoSaid : Prop := adlerTurnedUptoRow.holds Try.pinned (OpenSpec.upto adlerTurnedSpec)

/-- 'binderylaw07.RunsEncodes', WHERE WHAT IT READS IS OF BULK AT MOST 1048576: true; the input reads as it did. -/
def runsEncodesUptoRow : OpenClaim := { program := "ytgoajdnofekcaaa", sum := "da282877b1a47772f6268cdd872f74fd74b0c9a760d6976a97618e8982741745", func := "bindery/binderylaw07.RunsEncodes", spec := "runsEncodes", unfollowed := true, recurses := true, apart := false, narrowed := true }
def RunsEncodesUptoSaid : Prop := runsEncodesUptoRow.holds Try.pinned (OpenSpec.upto runsEncodesSpec)

/-- 'binderylaw07.RunsDecodes', WHERE WHAT IT READS IS OF BULK AT MOST 1048576: true; the input reads as it did. -/
def runsDecodesUptoRow : OpenClaim := { program := "ytgoajdnofekcaaa", sum := "da282877b1a47772f6268cdd872f74fd74b0c9a760d6976a97618e8982741745", func := "bindery/binderylaw07.RunsDecodes", spec := "runsDecodes", unfollowed := true, recurses := true, apart := false, narrowed := true }
def RunsDecodesUptoSaid : Prop := runsDecodesUptoRow.holds Try.pinned (OpenSpec.upto runsDecodesSpec)

/-- 'binderylaw07.RunsBack', WHERE WHAT IT READS IS OF BULK AT MOST 1048576: true; the input reads as it did. -/
def runsBackUptoRow : OpenClaim := { program := "ytgoajdnofekcaaa", sum := "da282877b1a47772f6268cdd872f74fd74b0c9a760d6976a97618e8982741745", func := "bindery/binderylaw07.RunsBack", spec := "runsBack", unfollowed := true, recurses := true, apart := false, narrowed := true }
def RunsBackUptoSaid : Prop := runsBackUptoRow.holds Try.pinned (OpenSpec.upto runsBackSpec)

/-- 'binderylaw07.RunsShort', WHERE WHAT IT READS IS OF BULK AT MOST 1048576: true; the input reads as it did. -/
def runsShortUptoRow : OpenClaim := { program := "ytgoajdnofekcaaa", sum := "da282877b1a47772f6268cdd872f74fd74b0c9a760d6976a97618e8982741745", func := "bindery/binderylaw07.RunsShort", spec := "runsShort", unfollowed := true, recurses := true, apart := false, narrowed := true }
def RunsShortUptoSaid : Prop := runsShortUptoRow.holds Try.pinned (OpenSpec.upto runsShortSpec)

/-- 'binderylaw13.PredictEncodes', WHERE WHAT IT READS IS OF BULK AT MOST 1048576: true; the input reads as it did. -/
def predictEncodesUptoRow : OpenClaim := { program := "ytgoajdnofekcaaa", sum := "da282877b1a47772f6268cdd872f74fd74b0c9a760d6976a97618e8982741745", func := "bindery/binderylaw13.PredictEncodes", spec := "predictEncodes", apart := false, narrowed := true }
def PredictEncodesUptoSaid : Prop := predictEncodesUptoRow.holds Try.pinned (OpenSpec.upto predictEncodesSpec)

/-- 'binderylaw13.PredictDecodes', WHERE WHAT IT READS IS OF BULK AT MOST 1048576: true; the input reads as it did. -/
def predictDecodesUptoRow : OpenClaim := { program := "ytgoajdnofekcaaa", sum := "da282877b1a47772f6268cdd872f74fd74b0c9a760d6976a97618e8982741745", func := "bindery/binderylaw13.PredictDecodes", spec := "predictDecodes", apart := false, narrowed := true }
def PredictDecodesUptoSaid : Prop := predictDecodesUptoRow.holds Try.pinned (OpenSpec.upto predictDecodesSpec)

/-- 'binderylaw13.PredictBack', WHERE WHAT IT READS IS OF BULK AT MOST 1048576: true; the input reads as it did. -/
def predictBackUptoRow : OpenClaim := { program := "ytgoajdnofekcaaa", sum := "da282877b1a47772f6268cdd872f74fd74b0c9a760d6976a97618e8982741745", func := "bindery/binderylaw13.PredictBack", spec := "predictBack", apart := false, narrowed := true }
def PredictBackUptoSaid : Prop := predictBackUptoRow.holds Try.pinned (OpenSpec.upto predictBackSpec)

end Rows
end Go.Proofs.Ytgoajdnofekcaaa
