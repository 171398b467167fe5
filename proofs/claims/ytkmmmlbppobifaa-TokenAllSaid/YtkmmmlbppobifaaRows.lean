/-
  No cell of these rows narrows 'for every input' (looked for: loops, veiled, ifaces, maps, wideKeys, modest, calm, conditions, laid).
  DERIVED. THE GIVEN ROWS OF THIS SEAT. 4 by the template 'for every input the law returns true; each argument reads behind the call as it read before'; 0 by the template 'total and deterministic' (their statements: YtkmmmlbppobifaaTotals.lean).
  GIVEN WITH THE SEED: the statements are not yours to turn. If you find one false, say at which input.
  Laid BY PROGRAM, IN A SANDBOX (cutbox-rows.mjs): the forced cells as the released guide's own fill.sh prints them over the translation a26cffadf401d863… (all of the seat's roots in one cut). By AI agents, Wed Nov 11 2026. No macro, syntax, notation, axiom, sorry.
-/
import Derived.Test.YtkmmmlbppobifaaChecked
import GoSem.Claim
import GoSem.ClaimJoined
import GoSem.ClaimMapViews
import Derived.JoinedTies
import Derived.KernelRfl
namespace Go.Proofs.Ytkmmmlbppobifaa
/- THE CELL 'sum', in the pinned program and in every row, IS THE sha256 OF THE DUMP (.gsa) THAT YtkmmmlbppobifaaProg.lean LOADS. Nothing in Lean hashes anything: it is a label: what it is worth is what the hold of that sum in a sandbox is worth. -/
noncomputable def Try.pinned : Pinned := { name := "ytkmmmlbppobifaa", sum := "a26cffadf401d863d0130f111955b40a82d7cc974ba69c27c68d7cd090720d0f", checked := Try.checked }
namespace Rows
def none {H : Type} : Left H := { results := [], args := [] }

/-- 'binderylaw15.TokenNext': WHATEVER THE INPUT: true; the input reads as it did. -/
def tokenNextSpec : ChangeSpec := { name := "tokenNext", fn := fun _ => fun
  | [d1, d2] => { results := [.lit (.bool true)], args := [d1, d2] }
  | _ => none }
def tokenNextRow : OpenClaim := { program := "ytkmmmlbppobifaa", sum := "a26cffadf401d863d0130f111955b40a82d7cc974ba69c27c68d7cd090720d0f", func := "bindery/binderylaw15.TokenNext", spec := "tokenNext", inPlace := ["internal/bytealg.IndexByteString", "internal/bytealg.IndexString"], unfollowed := true, recurses := true, named := ["internal/bytealg.MaxLen"], apart := false }
def TokenNextSaid : Prop := tokenNextRow.holds Try.pinned (OpenSpec.ofChange tokenNextSpec)

/-- ITS FALSE NEIGHBOUR: 'it returns false'. Refute it at one input. -/
def tokenNextWrong : ChangeSpec := { name := "tokenNext", fn := fun _ => fun
  | [d1, d2] => { results := [.lit (.bool false)], args := [d1, d2] }
  | _ => none }
def TokenNextWrongFalsely : Prop := tokenNextRow.holds Try.pinned (OpenSpec.ofChange tokenNextWrong)

/-- 'binderylaw15.TokenAll': WHATEVER THE INPUT: true; the input reads as it did. -/
def tokenAllSpec : ChangeSpec := { name := "tokenAll", fn := fun _ => fun
  | [d] => { results := [.lit (.bool true)], args := [d] }
  | _ => none }
def tokenAllRow : OpenClaim := { program := "ytkmmmlbppobifaa", sum := "a26cffadf401d863d0130f111955b40a82d7cc974ba69c27c68d7cd090720d0f", func := "bindery/binderylaw15.TokenAll", spec := "tokenAll", inPlace := ["internal/bytealg.IndexByteString", "internal/bytealg.IndexString"], unfollowed := true, recurses := true, named := ["internal/bytealg.MaxLen"], apart := false }
def TokenAllSaid : Prop := tokenAllRow.holds Try.pinned (OpenSpec.ofChange tokenAllSpec)

/-- ITS FALSE NEIGHBOUR: 'it returns false'. Refute it at one input. -/
def tokenAllWrong : ChangeSpec := { name := "tokenAll", fn := fun _ => fun
  | [d] => { results := [.lit (.bool false)], args := [d] }
  | _ => none }
def TokenAllWrongFalsely : Prop := tokenAllRow.holds Try.pinned (OpenSpec.ofChange tokenAllWrong)

/-- 'binderylaw15.TokenShift': WHATEVER THE INPUT: true; the input reads as it did. -/
def tokenShiftSpec : ChangeSpec := { name := "tokenShift", fn := fun _ => fun
  | [d1, d2, d3] => { results := [.lit (.bool true)], args := [d1, d2, d3] }
  | _ => none }
def tokenShiftRow : OpenClaim := { program := "ytkmmmlbppobifaa", sum := "a26cffadf401d863d0130f111955b40a82d7cc974ba69c27c68d7cd090720d0f", func := "bindery/binderylaw15.TokenShift", spec := "tokenShift", inPlace := ["internal/bytealg.IndexByteString", "internal/bytealg.IndexString"], unfollowed := true, recurses := true, named := ["internal/bytealg.MaxLen"], apart := false }
def TokenShiftSaid : Prop := tokenShiftRow.holds Try.pinned (OpenSpec.ofChange tokenShiftSpec)

/-- ITS FALSE NEIGHBOUR: 'it returns false'. Refute it at one input. -/
def tokenShiftWrong : ChangeSpec := { name := "tokenShift", fn := fun _ => fun
  | [d1, d2, d3] => { results := [.lit (.bool false)], args := [d1, d2, d3] }
  | _ => none }
def TokenShiftWrongFalsely : Prop := tokenShiftRow.holds Try.pinned (OpenSpec.ofChange tokenShiftWrong)

/-- 'binderylaw15.TokenWhite': WHATEVER THE INPUT: true; the input reads as it did. -/
def tokenWhiteSpec : ChangeSpec := { name := "tokenWhite", fn := fun _ => fun
  | [d1, d2, d3] => { results := [.lit (.bool true)], args := [d1, d2, d3] }
  | _ => none }
def tokenWhiteRow : OpenClaim := { program := "ytkmmmlbppobifaa", sum := "a26cffadf401d863d0130f111955b40a82d7cc974ba69c27c68d7cd090720d0f", func := "bindery/binderylaw15.TokenWhite", spec := "tokenWhite", inPlace := ["internal/bytealg.IndexByteString", "internal/bytealg.IndexString"], unfollowed := true, recurses := true, named := ["internal/bytealg.MaxLen"], apart := false }
def TokenWhiteSaid : Prop := tokenWhiteRow.holds Try.pinned (OpenSpec.ofChange tokenWhiteSpec)

/-- ITS FALSE NEIGHBOUR: 'it returns false'. Refute it at one input. -/
def tokenWhiteWrong : ChangeSpec := { name := "tokenWhite", fn := fun _ => fun
  | [d1, d2, d3] => { results := [.lit (.bool false)], args := [d1, d2, d3] }
  | _ => none }
def TokenWhiteWrongFalsely : Prop := tokenWhiteRow.holds Try.pinned (OpenSpec.ofChange tokenWhiteWrong)

/- THE SECOND FORM. 'bulk': how many values and letters a reading holds, each counted each time it is reached (what is shared counts as often as it is met; a slice's spare places count too). A statement '..UptoSaid' is the law's where the arguments, and the package variables that the reading takes, are together of bulk at most 1048576: NARROWER than '..Said'. Prove '..Said' where nothing that the law and all that it calls make is longer than what came in: it says more and counts as full. Else prove '..UptoSaid'. A law counts once. -/
mutual
def uptoBulk {H : Type} : DataW H → Nat
  | .lit (.string bytes) => bytes.length + 1
  | .lit _ => 1
  | .nil => 1
  | .ptr d => uptoBulk d + 1
  | .slice elems spare => uptoBulkAll elems + uptoBulkAll spare + 1
  | .agg parts => uptoBulkAll parts + 1
  | .iface _ d => uptoBulk d + 1
  | .map entries => uptoBulkEntries entries + 1
  | .held _ => 1
def uptoBulkAll {H : Type} : List (DataW H) → Nat
  | [] => 0
  | d :: r => uptoBulk d + uptoBulkAll r
def uptoBulkEntries {H : Type} : List (Lit × DataW H) → Nat
  | [] => 0
  | x :: r => uptoBulkEntry x + uptoBulkEntries r
def uptoBulkEntry {H : Type} : Lit × DataW H → Nat
  | (.string bytes, d) => bytes.length + uptoBulk d + 1
  | (_, d) => uptoBulk d + 1
 end
def uptoSmall : (H : Type) → List (DataW H) → Bool := fun _ ds => decide (uptoBulkAll ds ≤ 1048576)
def OpenSpec.upto (s : _root_.Go.ChangeSpec) : _root_.Go.OpenSpec := { _root_.Go.OpenSpec.ofChange s with cond := some uptoSmall }

/-- 'binderylaw15.TokenNext', WHERE WHAT IT READS IS OF BULK AT MOST 1048576: true; the input reads as it did. -/
def tokenNextUptoRow : OpenClaim := { program := "ytkmmmlbppobifaa", sum := "a26cffadf401d863d0130f111955b40a82d7cc974ba69c27c68d7cd090720d0f", func := "bindery/binderylaw15.TokenNext", spec := "tokenNext", inPlace := ["internal/bytealg.IndexByteString", "internal/bytealg.IndexString"], unfollowed := true, recurses := true, named := ["internal/bytealg.MaxLen"], apart := false, narrowed := true }
def TokenNextUptoSaid : Prop := tokenNextUptoRow.holds Try.pinned (OpenSpec.upto tokenNextSpec)

/-- 'binderylaw15.TokenAll', WHERE WHAT IT READS IS OF BULK AT MOST 1048576: true; the input reads as it did. -/
def tokenAllUptoRow : OpenClaim := { program := "ytkmmmlbppobifaa", sum := "a26cffadf401d863d0130f111955b40a82d7cc974ba69c27c68d7cd090720d0f", func := "bindery/binderylaw15.TokenAll", spec := "tokenAll", inPlace := ["internal/bytealg.IndexByteString", "internal/bytealg.IndexString"], unfollowed := true, recurses := true, named := ["internal/bytealg.MaxLen"], apart := false, narrowed := true }
def TokenAllUptoSaid : Prop := tokenAllUptoRow.holds Try.pinned (OpenSpec.upto tokenAllSpec)

/-- 'binderylaw15.TokenShift', WHERE WHAT IT READS IS OF BULK AT MOST 1048576: true; the input reads as it did. -/
def tokenShiftUptoRow : OpenClaim := { program := "ytkmmmlbppobifaa", sum := "a26cffadf401d863d0130f111955b40a82d7cc974ba69c27c68d7cd090720d0f", func := "bindery/binderylaw15.TokenShift", spec := "tokenShift", inPlace := ["internal/bytealg.IndexByteString", "internal/bytealg.IndexString"], unfollowed := true, recurses := true, named := ["internal/bytealg.MaxLen"], apart := false, narrowed := true }
def TokenShiftUptoSaid : Prop := tokenShiftUptoRow.holds Try.pinned (OpenSpec.upto tokenShiftSpec)

/-- 'binderylaw15.TokenWhite', WHERE WHAT IT READS IS OF BULK AT MOST 1048576: true; the input reads as it did. -/
def tokenWhiteUptoRow : OpenClaim := { program := "ytkmmmlbppobifaa", sum := "a26cffadf401d863d0130f111955b40a82d7cc974ba69c27c68d7cd090720d0f", func := "bindery/binderylaw15.TokenWhite", spec := "tokenWhite", inPlace := ["internal/bytealg.IndexByteString", "internal/bytealg.IndexString"], unfollowed := true, recurses := true, named := ["internal/bytealg.MaxLen"], apart := false, narrowed := true }
def TokenWhiteUptoSaid : Prop := tokenWhiteUptoRow.holds Try.pinned (OpenSpec.upto tokenWhiteSpec)

end Rows
end Go.Proofs.Ytkmmmlbppobifaa
