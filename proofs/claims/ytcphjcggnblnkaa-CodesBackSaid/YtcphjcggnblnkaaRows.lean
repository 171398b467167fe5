/-
  No cell of these rows narrows 'for every input' (looked for: loops, veiled, ifaces, maps, wideKeys, modest, calm, conditions, laid).
  DERIVED. THE GIVEN ROWS OF THIS SEAT. 8 by the template 'for every input the law returns true; each argument reads behind the call as it read before'; 0 by the template 'total and deterministic' (their statements: YtcphjcggnblnkaaTotals.lean).
  GIVEN WITH THE SEED: the statements are not yours to turn. If you find one false, say at which input.
  Laid BY PROGRAM, IN A SANDBOX (cutbox-rows.mjs): the forced cells as the released guide's own fill.sh prints them over the translation 7b04d5e06fca9aef… (all of the seat's roots in one cut). By AI agents, Wed Nov 11 2026. No macro, syntax, notation, axiom, sorry.
-/
import Derived.Test.YtcphjcggnblnkaaChecked
import GoSem.Claim
import GoSem.ClaimJoined
import GoSem.ClaimMapViews
import Derived.JoinedTies
import Derived.KernelRfl
namespace Go.Proofs.Ytcphjcggnblnkaa
/- THE CELL 'sum', in the pinned program and in every row, IS THE sha256 OF THE DUMP (.gsa) THAT YtcphjcggnblnkaaProg.lean LOADS. Nothing in Lean hashes anything: it is a label: what it is worth is what the hold of that sum in a sandbox is worth. -/
noncomputable def Try.pinned : Pinned := { name := "ytcphjcggnblnkaa", sum := "7b04d5e06fca9aef5eed71e3d912ab7a1d38532cd11a0644144bf0d291af7632", checked := Try.checked }
namespace Rows
def none {H : Type} : Left H := { results := [], args := [] }

/-- 'binderylaw08.BitrowWrites': WHATEVER THE INPUT: true; the input reads as it did. -/
def bitrowWritesSpec : ChangeSpec := { name := "bitrowWrites", fn := fun _ => fun
  | [d] => { results := [.lit (.bool true)], args := [d] }
  | _ => none }
def bitrowWritesRow : OpenClaim := { program := "ytcphjcggnblnkaa", sum := "7b04d5e06fca9aef5eed71e3d912ab7a1d38532cd11a0644144bf0d291af7632", func := "bindery/binderylaw08.BitrowWrites", spec := "bitrowWrites", apart := false }
def BitrowWritesSaid : Prop := bitrowWritesRow.holds Try.pinned (OpenSpec.ofChange bitrowWritesSpec)

/-- ITS FALSE NEIGHBOUR: 'it returns false'. Refute it at one input. -/
def bitrowWritesWrong : ChangeSpec := { name := "bitrowWrites", fn := fun _ => fun
  | [d] => { results := [.lit (.bool false)], args := [d] }
  | _ => none }
def BitrowWritesWrongFalsely : Prop := bitrowWritesRow.holds Try.pinned (OpenSpec.ofChange bitrowWritesWrong)

/-- 'binderylaw08.BitrowReads': WHATEVER THE INPUT: true; the input reads as it did. -/
def bitrowReadsSpec : ChangeSpec := { name := "bitrowReads", fn := fun _ => fun
  | [d1, d2] => { results := [.lit (.bool true)], args := [d1, d2] }
  | _ => none }
def bitrowReadsRow : OpenClaim := { program := "ytcphjcggnblnkaa", sum := "7b04d5e06fca9aef5eed71e3d912ab7a1d38532cd11a0644144bf0d291af7632", func := "bindery/binderylaw08.BitrowReads", spec := "bitrowReads", apart := false }
def BitrowReadsSaid : Prop := bitrowReadsRow.holds Try.pinned (OpenSpec.ofChange bitrowReadsSpec)

/-- ITS FALSE NEIGHBOUR: 'it returns false'. Refute it at one input. -/
def bitrowReadsWrong : ChangeSpec := { name := "bitrowReads", fn := fun _ => fun
  | [d1, d2] => { results := [.lit (.bool false)], args := [d1, d2] }
  | _ => none }
def BitrowReadsWrongFalsely : Prop := bitrowReadsRow.holds Try.pinned (OpenSpec.ofChange bitrowReadsWrong)

/-- 'binderylaw08.BitrowBack': WHATEVER THE INPUT: true; the input reads as it did. -/
def bitrowBackSpec : ChangeSpec := { name := "bitrowBack", fn := fun _ => fun
  | [d] => { results := [.lit (.bool true)], args := [d] }
  | _ => none }
def bitrowBackRow : OpenClaim := { program := "ytcphjcggnblnkaa", sum := "7b04d5e06fca9aef5eed71e3d912ab7a1d38532cd11a0644144bf0d291af7632", func := "bindery/binderylaw08.BitrowBack", spec := "bitrowBack", apart := false }
def BitrowBackSaid : Prop := bitrowBackRow.holds Try.pinned (OpenSpec.ofChange bitrowBackSpec)

/-- ITS FALSE NEIGHBOUR: 'it returns false'. Refute it at one input. -/
def bitrowBackWrong : ChangeSpec := { name := "bitrowBack", fn := fun _ => fun
  | [d] => { results := [.lit (.bool false)], args := [d] }
  | _ => none }
def BitrowBackWrongFalsely : Prop := bitrowBackRow.holds Try.pinned (OpenSpec.ofChange bitrowBackWrong)

/-- 'binderylaw09.CodesTells': WHATEVER THE INPUT: true; the input reads as it did. -/
def codesTellsSpec : ChangeSpec := { name := "codesTells", fn := fun _ => fun
  | [d] => { results := [.lit (.bool true)], args := [d] }
  | _ => none }
def codesTellsRow : OpenClaim := { program := "ytcphjcggnblnkaa", sum := "7b04d5e06fca9aef5eed71e3d912ab7a1d38532cd11a0644144bf0d291af7632", func := "bindery/binderylaw09.CodesTells", spec := "codesTells", apart := false }
def CodesTellsSaid : Prop := codesTellsRow.holds Try.pinned (OpenSpec.ofChange codesTellsSpec)

/-- ITS FALSE NEIGHBOUR: 'it returns false'. Refute it at one input. -/
def codesTellsWrong : ChangeSpec := { name := "codesTells", fn := fun _ => fun
  | [d] => { results := [.lit (.bool false)], args := [d] }
  | _ => none }
def CodesTellsWrongFalsely : Prop := codesTellsRow.holds Try.pinned (OpenSpec.ofChange codesTellsWrong)

/-- 'binderylaw09.CodesPrefix': WHATEVER THE INPUT: true; the input reads as it did. -/
def codesPrefixSpec : ChangeSpec := { name := "codesPrefix", fn := fun _ => fun
  | [d] => { results := [.lit (.bool true)], args := [d] }
  | _ => none }
def codesPrefixRow : OpenClaim := { program := "ytcphjcggnblnkaa", sum := "7b04d5e06fca9aef5eed71e3d912ab7a1d38532cd11a0644144bf0d291af7632", func := "bindery/binderylaw09.CodesPrefix", spec := "codesPrefix", apart := false }
def CodesPrefixSaid : Prop := codesPrefixRow.holds Try.pinned (OpenSpec.ofChange codesPrefixSpec)

/-- ITS FALSE NEIGHBOUR: 'it returns false'. Refute it at one input. -/
def codesPrefixWrong : ChangeSpec := { name := "codesPrefix", fn := fun _ => fun
  | [d] => { results := [.lit (.bool false)], args := [d] }
  | _ => none }
def CodesPrefixWrongFalsely : Prop := codesPrefixRow.holds Try.pinned (OpenSpec.ofChange codesPrefixWrong)

/-- 'binderylaw09.CodesReads': WHATEVER THE INPUT: true; the input reads as it did. -/
def codesReadsSpec : ChangeSpec := { name := "codesReads", fn := fun _ => fun
  | [d1, d2] => { results := [.lit (.bool true)], args := [d1, d2] }
  | _ => none }
def codesReadsRow : OpenClaim := { program := "ytcphjcggnblnkaa", sum := "7b04d5e06fca9aef5eed71e3d912ab7a1d38532cd11a0644144bf0d291af7632", func := "bindery/binderylaw09.CodesReads", spec := "codesReads", apart := false }
def CodesReadsSaid : Prop := codesReadsRow.holds Try.pinned (OpenSpec.ofChange codesReadsSpec)

/-- ITS FALSE NEIGHBOUR: 'it returns false'. Refute it at one input. -/
def codesReadsWrong : ChangeSpec := { name := "codesReads", fn := fun _ => fun
  | [d1, d2] => { results := [.lit (.bool false)], args := [d1, d2] }
  | _ => none }
def CodesReadsWrongFalsely : Prop := codesReadsRow.holds Try.pinned (OpenSpec.ofChange codesReadsWrong)

/-- 'binderylaw09.CodesWrites': WHATEVER THE INPUT: true; the input reads as it did. -/
def codesWritesSpec : ChangeSpec := { name := "codesWrites", fn := fun _ => fun
  | [d1, d2] => { results := [.lit (.bool true)], args := [d1, d2] }
  | _ => none }
def codesWritesRow : OpenClaim := { program := "ytcphjcggnblnkaa", sum := "7b04d5e06fca9aef5eed71e3d912ab7a1d38532cd11a0644144bf0d291af7632", func := "bindery/binderylaw09.CodesWrites", spec := "codesWrites", apart := false }
def CodesWritesSaid : Prop := codesWritesRow.holds Try.pinned (OpenSpec.ofChange codesWritesSpec)

/-- ITS FALSE NEIGHBOUR: 'it returns false'. Refute it at one input. -/
def codesWritesWrong : ChangeSpec := { name := "codesWrites", fn := fun _ => fun
  | [d1, d2] => { results := [.lit (.bool false)], args := [d1, d2] }
  | _ => none }
def CodesWritesWrongFalsely : Prop := codesWritesRow.holds Try.pinned (OpenSpec.ofChange codesWritesWrong)

/-- 'binderylaw09.CodesBack': WHATEVER THE INPUT: true; the input reads as it did. -/
def codesBackSpec : ChangeSpec := { name := "codesBack", fn := fun _ => fun
  | [d1, d2] => { results := [.lit (.bool true)], args := [d1, d2] }
  | _ => none }
def codesBackRow : OpenClaim := { program := "ytcphjcggnblnkaa", sum := "7b04d5e06fca9aef5eed71e3d912ab7a1d38532cd11a0644144bf0d291af7632", func := "bindery/binderylaw09.CodesBack", spec := "codesBack", apart := false }
def CodesBackSaid : Prop := codesBackRow.holds Try.pinned (OpenSpec.ofChange codesBackSpec)

/-- ITS FALSE NEIGHBOUR: 'it returns false'. Refute it at one input. -/
def codesBackWrong : ChangeSpec := { name := "codesBack", fn := fun _ => fun
  | [d1, d2] => { results := [.lit (.bool false)], args := [d1, d2] }
  | _ => none }
def CodesBackWrongFalsely : Prop := codesBackRow.holds Try.pinned (OpenSpec.ofChange codesBackWrong)

/- THE SECOND FORM. 'bulk': how many values and letters a reading holds, each counted each time it is reached (what is shared counts as often as it is met; a slice's spare places count too). A statement '..UptoSaid' is the law's where the arguments, and the package variables that the reading takes, are together of bulk at most 1048576: NARROWER than '..Said'. Prove '..Said' where nothing that the law and all that it calls make is longer than what came in: it says more and counts as full. Else prove '..UptoSaid'. A law counts once. -/
mutual
def uptoBulk {H : Type} : DataW H → Nat
  | .lit (.string bytes) => bytes.length + 1
  | .lit _ => 1
  | .nil => 1
  | .ptr d => uptoBulk d + 1
  | .slice elems spare => uptoBulkAll elems + uptoBulkAll spare + 1
  | .agg parts => uptoBulkAll parts + 1
  | .iface _ d => uptoBulk d + 1
  | .map entries => uptoBulkEntries entries + 1
  | .held _ => 1
def uptoBulkAll {H : Type} : List (DataW H) → Nat
  | [] => 0
  | d :: r => uptoBulk d + uptoBulkAll r
def uptoBulkEntries {H : Type} : List (Lit × DataW H) → Nat
  | [] => 0
  | x :: r => uptoBulkEntry x + uptoBulkEntries r
def uptoBulkEntry {H : Type} : Lit × DataW H → Nat
  | (.string bytes, d) => bytes.length + uptoBulk d + 1
  | (_, d) => uptoBulk d + 1
 end
def uptoSmall : (H : Type) → List (DataW H) → Bool := fun _ ds => decide (uptoBulkAll ds ≤ 1048576)
def OpenSpec.upto (s : _root_.Go.ChangeSpec) : _root_.Go.OpenSpec := { _root_.Go.OpenSpec.ofChange s with cond := some uptoSmall }

/-- 'binderylaw08.BitrowWrites', WHERE WHAT IT READS IS OF BULK AT MOST 1048576: true; the input reads as it did. -/
def bitrowWritesUptoRow : OpenClaim := { program := "ytcphjcggnblnkaa", sum := "7b04d5e06fca9aef5eed71e3d912ab7a1d38532cd11a0644144bf0d291af7632", func := "bindery/binderylaw08.BitrowWrites", spec := "bitrowWrites", apart := false, narrowed := true }
def BitrowWritesUptoSaid : Prop := bitrowWritesUptoRow.holds Try.pinned (OpenSpec.upto bitrowWritesSpec)

/-- 'binderylaw08.BitrowReads', WHERE WHAT IT READS IS OF BULK AT MOST 1048576: true; the input reads as it did. -/
def bitrowReadsUptoRow : OpenClaim := { program := "ytcphjcggnblnkaa", sum := "7b04d5e06fca9aef5eed71e3d912ab7a1d38532cd11a0644144bf0d291af7632", func := "bindery/binderylaw08.BitrowReads", spec := "bitrowReads", apart := false, narrowed := true }
def BitrowReadsUptoSaid : Prop := bitrowReadsUptoRow.holds Try.pinned (OpenSpec.upto bitrowReadsSpec)

/-- 'binderylaw08.BitrowBack', WHERE WHAT IT READS IS OF BULK AT MOST 1048576: true; the input reads as it did. -/
def bitrowBackUptoRow : OpenClaim := { program := "ytcphjcggnblnkaa", sum := "7b04d5e06fca9aef5eed71e3d912ab7a1d38532cd11a0644144bf0d291af7632", func := "bindery/binderylaw08.BitrowBack", spec := "bitrowBack", apart := false, narrowed := true }
def BitrowBackUptoSaid : Prop := bitrowBackUptoRow.holds Try.pinned (OpenSpec.upto bitrowBackSpec)

/-- 'binderylaw09.CodesTells', WHERE WHAT IT READS IS OF BULK AT MOST 1048576: true; the input reads as it did. -/
def codesTellsUptoRow : OpenClaim := { program := "ytcphjcggnblnkaa", sum := "7b04d5e06fca9aef5eed71e3d912ab7a1d38532cd11a0644144bf0d291af7632", func := "bindery/binderylaw09.CodesTells", spec := "codesTells", apart := false, narrowed := true }
def CodesTellsUptoSaid : Prop := codesTellsUptoRow.holds Try.pinned (OpenSpec.upto codesTellsSpec)

/-- 'binderylaw09.CodesPrefix', WHERE WHAT IT READS IS OF BULK AT MOST 1048576: true; the input reads as it did. -/
def codesPrefixUptoRow : OpenClaim := { program := "ytcphjcggnblnkaa", sum := "7b04d5e06fca9aef5eed71e3d912ab7a1d38532cd11a0644144bf0d291af7632", func := "bindery/binderylaw09.CodesPrefix", spec := "codesPrefix", apart := false, narrowed := true }
def CodesPrefixUptoSaid : Prop := codesPrefixUptoRow.holds Try.pinned (OpenSpec.upto codesPrefixSpec)

/-- 'binderylaw09.CodesReads', WHERE WHAT IT READS IS OF BULK AT MOST 1048576: true; the input reads as it did. -/
def codesReadsUptoRow : OpenClaim := { program := "ytcphjcggnblnkaa", sum := "7b04d5e06fca9aef5eed71e3d912ab7a1d38532cd11a0644144bf0d291af7632", func := "bindery/binderylaw09.CodesReads", spec := "codesReads", apart := false, narrowed := true }
def CodesReadsUptoSaid : Prop := codesReadsUptoRow.holds Try.pinned (OpenSpec.upto codesReadsSpec)

/-- 'binderylaw09.CodesWrites', WHERE WHAT IT READS IS OF BULK AT MOST 1048576: true; the input reads as it did. -/
def codesWritesUptoRow : OpenClaim := { program := "ytcphjcggnblnkaa", sum := "7b04d5e06fca9aef5eed71e3d912ab7a1d38532cd11a0644144bf0d291af7632", func := "bindery/binderylaw09.CodesWrites", spec := "codesWrites", apart := false, narrowed := true }
def CodesWritesUptoSaid : Prop := codesWritesUptoRow.holds Try.pinned (OpenSpec.upto codesWritesSpec)

/-- 'binderylaw09.CodesBack', WHERE WHAT IT READS IS OF BULK AT MOST 1048576: true; the input reads as it did. -/
def codesBackUptoRow : OpenClaim := { program := "ytcphjcggnblnkaa", sum := "7b04d5e06fca9aef5eed71e3d912ab7a1d38532cd11a0644144bf0d291af7632", func := "bindery/binderylaw09.CodesBack", spec := "codesBack", apart := false, narrowed := true }
def CodesBackUptoSaid : Prop := codesBackUptoRow.holds Try.pinned (OpenSpec.upto codesBackSpec)

end Rows
end Go.Proofs.Ytcphjcggnblnkaa
