/-
  No cell of these rows narrows 'for every input' (looked for: loops, veiled, ifaces, maps, wideKeys, modest, calm, conditions, laid).
  DERIVED. THE GIVEN ROWS OF THIS SEAT. 7 by the template 'for every input the law returns true; each argument reads behind the call as it read before'; 0 by the template 'total and deterministic' (their statements: YtghoifkaikddlaaGreatTotals.lean).
  GIVEN WITH THE SEED: the statements are not yours to turn. If you find one false, say at which input.
  Laid BY PROGRAM, IN A SANDBOX (cutbox-rows.mjs): the forced cells as the released guide's own fill.sh prints them over the translation bd7f7f7e36b58abe… (all of the seat's roots in one cut). By AI agents, Wed Nov 11 2026. No macro, syntax, notation, axiom, sorry.
-/
import Derived.Test.YtghoifkaikddlaaGreatChecked
import GoSem.Claim
import GoSem.ClaimJoined
import GoSem.ClaimMapViews
import Derived.JoinedTies
import Derived.KernelRfl
namespace Go.Proofs.YtghoifkaikddlaaGreat
/- THE CELL 'sum', in the pinned program and in every row, IS THE sha256 OF THE DUMP (.gsa) THAT YtghoifkaikddlaaGreatProg.lean LOADS. Nothing in Lean hashes anything: it is a label: what it is worth is what the hold of that sum in a sandbox is worth. -/
noncomputable def Tryz.pinned : Pinned := { name := "ytghoifkaikddlaagreat", sum := "bd7f7f7e36b58abe635050febdd2fd45bfa2a632813a0c5de64da16e9c17daff", checked := Tryz.checked }
namespace Rows
def none {H : Type} : Left H := { results := [], args := [] }

/-- 'binderylaw19.QuietTells': WHATEVER THE INPUT: true; the input reads as it did. -/
def quietTellsSpec : ChangeSpec := { name := "quietTells", fn := fun _ => fun
  | [d1, d2, d3] => { results := [.lit (.bool true)], args := [d1, d2, d3] }
  | _ => none }
def quietTellsRow : OpenClaim := { program := "ytghoifkaikddlaagreat", sum := "bd7f7f7e36b58abe635050febdd2fd45bfa2a632813a0c5de64da16e9c17daff", func := "bindery/binderylaw19.QuietTells", spec := "quietTells", inPlace := ["internal/abi.NoEscape"], unfollowed := true, recurses := true, apart := false }
def QuietTellsSaid : Prop := quietTellsRow.holds Tryz.pinned (OpenSpec.ofChange quietTellsSpec)

/-- ITS FALSE NEIGHBOUR: 'it returns false'. Refute it at one input. -/
def quietTellsWrong : ChangeSpec := { name := "quietTells", fn := fun _ => fun
  | [d1, d2, d3] => { results := [.lit (.bool false)], args := [d1, d2, d3] }
  | _ => none }
def QuietTellsWrongFalsely : Prop := quietTellsRow.holds Tryz.pinned (OpenSpec.ofChange quietTellsWrong)

/-- 'binderylaw19.QuietJoins': WHATEVER THE INPUT: true; the input reads as it did. -/
def quietJoinsSpec : ChangeSpec := { name := "quietJoins", fn := fun _ => fun
  | [d1, d2, d3] => { results := [.lit (.bool true)], args := [d1, d2, d3] }
  | _ => none }
def quietJoinsRow : OpenClaim := { program := "ytghoifkaikddlaagreat", sum := "bd7f7f7e36b58abe635050febdd2fd45bfa2a632813a0c5de64da16e9c17daff", func := "bindery/binderylaw19.QuietJoins", spec := "quietJoins", inPlace := ["internal/abi.NoEscape"], unfollowed := true, recurses := true, apart := false }
def QuietJoinsSaid : Prop := quietJoinsRow.holds Tryz.pinned (OpenSpec.ofChange quietJoinsSpec)

/-- ITS FALSE NEIGHBOUR: 'it returns false'. Refute it at one input. -/
def quietJoinsWrong : ChangeSpec := { name := "quietJoins", fn := fun _ => fun
  | [d1, d2, d3] => { results := [.lit (.bool false)], args := [d1, d2, d3] }
  | _ => none }
def QuietJoinsWrongFalsely : Prop := quietJoinsRow.holds Tryz.pinned (OpenSpec.ofChange quietJoinsWrong)

/-- 'binderylaw14.CoatEncodes': WHATEVER THE INPUT: true; the input reads as it did. -/
def coatEncodesSpec : ChangeSpec := { name := "coatEncodes", fn := fun _ => fun
  | [d1, d2, d3] => { results := [.lit (.bool true)], args := [d1, d2, d3] }
  | _ => none }
def coatEncodesRow : OpenClaim := { program := "ytghoifkaikddlaagreat", sum := "bd7f7f7e36b58abe635050febdd2fd45bfa2a632813a0c5de64da16e9c17daff", func := "bindery/binderylaw14.CoatEncodes", spec := "coatEncodes", inPlace := ["internal/abi.NoEscape"], unfollowed := true, recurses := true, apart := false }
def CoatEncodesSaid : Prop := coatEncodesRow.holds Tryz.pinned (OpenSpec.ofChange coatEncodesSpec)

/-- ITS FALSE NEIGHBOUR: 'it returns false'. Refute it at one input. -/
def coatEncodesWrong : ChangeSpec := { name := "coatEncodes", fn := fun _ => fun
  | [d1, d2, d3] => { results := [.lit (.bool false)], args := [d1, d2, d3] }
  | _ => none }
def CoatEncodesWrongFalsely : Prop := coatEncodesRow.holds Tryz.pinned (OpenSpec.ofChange coatEncodesWrong)

/-- 'binderylaw14.CoatDecodes': WHATEVER THE INPUT: true; the input reads as it did. -/
def coatDecodesSpec : ChangeSpec := { name := "coatDecodes", fn := fun _ => fun
  | [d1, d2, d3, d4] => { results := [.lit (.bool true)], args := [d1, d2, d3, d4] }
  | _ => none }
def coatDecodesRow : OpenClaim := { program := "ytghoifkaikddlaagreat", sum := "bd7f7f7e36b58abe635050febdd2fd45bfa2a632813a0c5de64da16e9c17daff", func := "bindery/binderylaw14.CoatDecodes", spec := "coatDecodes", inPlace := ["internal/abi.NoEscape"], unfollowed := true, recurses := true, apart := false }
def CoatDecodesSaid : Prop := coatDecodesRow.holds Tryz.pinned (OpenSpec.ofChange coatDecodesSpec)

/-- ITS FALSE NEIGHBOUR: 'it returns false'. Refute it at one input. -/
def coatDecodesWrong : ChangeSpec := { name := "coatDecodes", fn := fun _ => fun
  | [d1, d2, d3, d4] => { results := [.lit (.bool false)], args := [d1, d2, d3, d4] }
  | _ => none }
def CoatDecodesWrongFalsely : Prop := coatDecodesRow.holds Tryz.pinned (OpenSpec.ofChange coatDecodesWrong)

/-- 'binderylaw14.CoatBack': WHATEVER THE INPUT: true; the input reads as it did. -/
def coatBackSpec : ChangeSpec := { name := "coatBack", fn := fun _ => fun
  | [d1, d2, d3] => { results := [.lit (.bool true)], args := [d1, d2, d3] }
  | _ => none }
def coatBackRow : OpenClaim := { program := "ytghoifkaikddlaagreat", sum := "bd7f7f7e36b58abe635050febdd2fd45bfa2a632813a0c5de64da16e9c17daff", func := "bindery/binderylaw14.CoatBack", spec := "coatBack", inPlace := ["internal/abi.NoEscape"], unfollowed := true, recurses := true, apart := false }
def CoatBackSaid : Prop := coatBackRow.holds Tryz.pinned (OpenSpec.ofChange coatBackSpec)

/-- ITS FALSE NEIGHBOUR: 'it returns false'. Refute it at one input. -/
def coatBackWrong : ChangeSpec := { name := "coatBack", fn := fun _ => fun
  | [d1, d2, d3] => { results := [.lit (.bool false)], args := [d1, d2, d3] }
  | _ => none }
def CoatBackWrongFalsely : Prop := coatBackRow.holds Tryz.pinned (OpenSpec.ofChange coatBackWrong)

/-- 'binderylaw14.CoatWithin': WHATEVER THE INPUT: true; the input reads as it did. -/
def coatWithinSpec : ChangeSpec := { name := "coatWithin", fn := fun _ => fun
  | [d1, d2, d3] => { results := [.lit (.bool true)], args := [d1, d2, d3] }
  | _ => none }
def coatWithinRow : OpenClaim := { program := "ytghoifkaikddlaagreat", sum := "bd7f7f7e36b58abe635050febdd2fd45bfa2a632813a0c5de64da16e9c17daff", func := "bindery/binderylaw14.CoatWithin", spec := "coatWithin", inPlace := ["internal/abi.NoEscape"], unfollowed := true, recurses := true, apart := false }
def CoatWithinSaid : Prop := coatWithinRow.holds Tryz.pinned (OpenSpec.ofChange coatWithinSpec)

/-- ITS FALSE NEIGHBOUR: 'it returns false'. Refute it at one input. -/
def coatWithinWrong : ChangeSpec := { name := "coatWithin", fn := fun _ => fun
  | [d1, d2, d3] => { results := [.lit (.bool false)], args := [d1, d2, d3] }
  | _ => none }
def CoatWithinWrongFalsely : Prop := coatWithinRow.holds Tryz.pinned (OpenSpec.ofChange coatWithinWrong)

/-- 'binderylaw19.QuietNever': WHATEVER THE INPUT: true; the input reads as it did. -/
def quietNeverSpec : ChangeSpec := { name := "quietNever", fn := fun _ => fun
  | [d1, d2] => { results := [.lit (.bool true)], args := [d1, d2] }
  | _ => none }
def quietNeverRow : OpenClaim := { program := "ytghoifkaikddlaagreat", sum := "bd7f7f7e36b58abe635050febdd2fd45bfa2a632813a0c5de64da16e9c17daff", func := "bindery/binderylaw19.QuietNever", spec := "quietNever", inPlace := ["internal/abi.NoEscape"], unfollowed := true, recurses := true, apart := false }
def QuietNeverSaid : Prop := quietNeverRow.holds Tryz.pinned (OpenSpec.ofChange quietNeverSpec)

/-- ITS FALSE NEIGHBOUR: 'it returns false'. Refute it at one input. -/
def quietNeverWrong : ChangeSpec := { name := "quietNever", fn := fun _ => fun
  | [d1, d2] => { results := [.lit (.bool false)], args := [d1, d2] }
  | _ => none }
def QuietNeverWrongFalsely : Prop := quietNeverRow.holds Tryz.pinned (OpenSpec.ofChange quietNeverWrong)

/- THE SECOND FORM. 'bulk': how many values and letters a reading holds, each counted each time it is reached (what is shared counts as often as it is met; a slice's spare places count too). A statement '..UptoSaid' is the law's where the arguments, and the package variables that the reading takes, are together of bulk at most 1048576: NARROWER than '..Said'. Prove '..Said' where nothing that the law and all that it calls make is longer than what came in: it says more and counts as full. Else prove '..UptoSaid'. A law counts once. -/
mutual
def uptoBulk {H : Type} : DataW H → Nat
  | .lit (.string bytes) => bytes.length + 1
  | .lit _ => 1
  | .nil => 1
  | .ptr d => uptoBulk d + 1
  | .slice elems spare => uptoBulkAll elems + uptoBulkAll spare + 1
  | .agg parts => uptoBulkAll parts + 1
  | .iface _ d => uptoBulk d + 1
  | .map entries => uptoBulkEntries entries + 1
  | .held _ => 1
def uptoBulkAll {H : Type} : List (DataW H) → Nat
  | [] => 0
  | d :: r => uptoBulk d + uptoBulkAll r
def uptoBulkEntries {H : Type} : List (Lit × DataW H) → Nat
  | [] => 0
  | x :: r => uptoBulkEntry x + uptoBulkEntries r
def uptoBulkEntry {H : Type} : Lit × DataW H → Nat
  | (.string bytes, d) => bytes.length + uptoBulk d + 1
  | (_, d) => uptoBulk d + 1
 end
def uptoSmall : (H : Type) → List (DataW H) → Bool := fun _ ds => decide (uptoBulkAll ds ≤ 1048576)
def OpenSpec.upto (s : _root_.Go.ChangeSpec) : _root_.Go.OpenSpec := { _root_.Go.OpenSpec.ofChange s with cond := some uptoSmall }

/-- 'binderylaw19.QuietTells', WHERE WHAT IT READS IS OF BULK AT MOST 1048576: true; the input reads as it did. -/
def quietTellsUptoRow : OpenClaim := { program := "ytghoifkaikddlaagreat", sum := "bd7f7f7e36b58abe635050febdd2fd45bfa2a632813a0c5de64da16e9c17daff", func := "bindery/binderylaw19.QuietTells", spec := "quietTells", inPlace := ["internal/abi.NoEscape"], unfollowed := true, recurses := true, apart := false, narrowed := true }
def QuietTellsUptoSaid : Prop := quietTellsUptoRow.holds Tryz.pinned (OpenSpec.upto quietTellsSpec)

/-- 'binderylaw19.QuietJoins', WHERE WHAT IT READS IS OF BULK AT MOST 1048576: true; the input reads as it did. -/
def quietJoinsUptoRow : OpenClaim := { program := "ytghoifkaikddlaagreat", sum := "bd7f7f7e36b58abe635050febdd2fd45bfa2a632813a0c5de64da16e9c17daff", func := "bindery/binderylaw19.QuietJoins", spec := "quietJoins", inPlace := ["internal/abi.NoEscape"], unfollowed := true, recurses := true, apart := false, narrowed := true }
def QuietJoinsUptoSaid : Prop := quietJoinsUptoRow.holds Tryz.pinned (OpenSpec.upto quietJoinsSpec)

/-- 'binderylaw14.CoatEncodes', WHERE WHAT IT READS IS OF BULK AT MOST 1048576: true; the input reads as it did. -/
def coatEncodesUptoRow : OpenClaim := { program := "ytghoifkaikddlaagreat", sum := "bd7f7f7e36b58abe635050febdd2fd45bfa2a632813a0c5de64da16e9c17daff", func := "bindery/binderylaw14.CoatEncodes", spec := "coatEncodes", inPlace := ["internal/abi.NoEscape"], unfollowed := true, recurses := true, apart := false, narrowed := true }
def CoatEncodesUptoSaid : Prop := coatEncodesUptoRow.holds Tryz.pinned (OpenSpec.upto coatEncodesSpec)

/-- 'binderylaw14.CoatDecodes', WHERE WHAT IT READS IS OF BULK AT MOST 1048576: true; the input reads as it did. -/
def coatDecodesUptoRow : OpenClaim := { program := "ytghoifkaikddlaagreat", sum := "bd7f7f7e36b58abe635050febdd2fd45bfa2a632813a0c5de64da16e9c17daff", func := "bindery/binderylaw14.CoatDecodes", spec := "coatDecodes", inPlace := ["internal/abi.NoEscape"], unfollowed := true, recurses := true, apart := false, narrowed := true }
def CoatDecodesUptoSaid : Prop := coatDecodesUptoRow.holds Tryz.pinned (OpenSpec.upto coatDecodesSpec)

/-- 'binderylaw14.CoatBack', WHERE WHAT IT READS IS OF BULK AT MOST 1048576: true; the input reads as it did. -/
def coatBackUptoRow : OpenClaim := { program := "ytghoifkaikddlaagreat", sum := "bd7f7f7e36b58abe635050febdd2fd45bfa2a632813a0c5de64da16e9c17daff", func := "bindery/binderylaw14.CoatBack", spec := "coatBack", inPlace := ["internal/abi.NoEscape"], unfollowed := true, recurses := true, apart := false, narrowed := true }
def CoatBackUptoSaid : Prop := coatBackUptoRow.holds Tryz.pinned (OpenSpec.upto coatBackSpec)

/-- 'binderylaw14.CoatWithin', WHERE WHAT IT READS IS OF BULK AT MOST 1048576: true; the input reads as it did. -/
def coatWithinUptoRow : OpenClaim := { program := "ytghoifkaikddlaagreat", sum := "bd7f7f7e36b58abe635050febdd2fd45bfa2a632813a0c5de64da16e9c17daff", func := "bindery/binderylaw14.CoatWithin", spec := "coatWithin", inPlace := ["internal/abi.NoEscape"], unfollowed := true, recurses := true, apart := false, narrowed := true }
def CoatWithinUptoSaid : Prop := coatWithinUptoRow.holds Tryz.pinned (OpenSpec.upto coatWithinSpec)

/-- 'binderylaw19.QuietNever', WHERE WHAT IT READS IS OF BULK AT MOST 1048576: true; the input reads as it did. -/
def quietNeverUptoRow : OpenClaim := { program := "ytghoifkaikddlaagreat", sum := "bd7f7f7e36b58abe635050febdd2fd45bfa2a632813a0c5de64da16e9c17daff", func := "bindery/binderylaw19.QuietNever", spec := "quietNever", inPlace := ["internal/abi.NoEscape"], unfollowed := true, recurses := true, apart := false, narrowed := true }
def QuietNeverUptoSaid : Prop := quietNeverUptoRow.holds Tryz.pinned (OpenSpec.upto quietNeverSpec)

end Rows
end Go.Proofs.YtghoifkaikddlaaGreat
