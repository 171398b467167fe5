/-
  No cell of these rows narrows 'for every input' (looked for: loops, veiled, ifaces, maps, wideKeys, modest, calm, conditions, laid).
  DERIVED. THE GIVEN ROWS OF THIS SEAT. 12 by the template 'for every input the law returns true; each argument reads behind the call as it read before'; 0 by the template 'total and deterministic' (their statements: YthghjdajohcedaaTotals.lean).
  GIVEN WITH THE SEED: the statements are not yours to turn. If you find one false, say at which input.
  Laid BY PROGRAM, IN A SANDBOX (cutbox-rows.mjs): the forced cells as the released guide's own fill.sh prints them over the translation 28b396bd3c71698a… (all of the seat's roots in one cut). By AI agents, Wed Nov 11 2026. No macro, syntax, notation, axiom, sorry.
-/
import Derived.Test.YthghjdajohcedaaChecked
import GoSem.Claim
import GoSem.ClaimJoined
import GoSem.ClaimMapViews
import Derived.JoinedTies
import Derived.KernelRfl
namespace Go.Proofs.Ythghjdajohcedaa
/- THE CELL 'sum', in the pinned program and in every row, IS THE sha256 OF THE DUMP (.gsa) THAT YthghjdajohcedaaProg.lean LOADS. Nothing in Lean hashes anything: it is a label: what it is worth is what the hold of that sum in a sandbox is worth. -/
noncomputable def Try.pinned : Pinned := { name := "ythghjdajohcedaa", sum := "28b396bd3c71698af4d4c429fd8783f9d5f55cabf4534b122fde17c65c37795b", checked := Try.checked }
namespace Rows
def none {H : Type} : Left H := { results := [], args := [] }

/-- 'binderylaw01.OctetKinds': WHATEVER THE INPUT: true; the input reads as it did. -/
def octetKindsSpec : ChangeSpec := { name := "octetKinds", fn := fun _ => fun
  | [d1, d2] => { results := [.lit (.bool true)], args := [d1, d2] }
  | _ => none }
def octetKindsRow : OpenClaim := { program := "ythghjdajohcedaa", sum := "28b396bd3c71698af4d4c429fd8783f9d5f55cabf4534b122fde17c65c37795b", func := "bindery/binderylaw01.OctetKinds", spec := "octetKinds", unfollowed := true, recurses := true, apart := false }
def OctetKindsSaid : Prop := octetKindsRow.holds Try.pinned (OpenSpec.ofChange octetKindsSpec)

/-- ITS FALSE NEIGHBOUR: 'it returns false'. Refute it at one input. -/
def octetKindsWrong : ChangeSpec := { name := "octetKinds", fn := fun _ => fun
  | [d1, d2] => { results := [.lit (.bool false)], args := [d1, d2] }
  | _ => none }
def OctetKindsWrongFalsely : Prop := octetKindsRow.holds Try.pinned (OpenSpec.ofChange octetKindsWrong)

/-- 'binderylaw01.OctetSpans': WHATEVER THE INPUT: true; the input reads as it did. -/
def octetSpansSpec : ChangeSpec := { name := "octetSpans", fn := fun _ => fun
  | [d1, d2, d3] => { results := [.lit (.bool true)], args := [d1, d2, d3] }
  | _ => none }
def octetSpansRow : OpenClaim := { program := "ythghjdajohcedaa", sum := "28b396bd3c71698af4d4c429fd8783f9d5f55cabf4534b122fde17c65c37795b", func := "bindery/binderylaw01.OctetSpans", spec := "octetSpans", unfollowed := true, recurses := true, apart := false }
def OctetSpansSaid : Prop := octetSpansRow.holds Try.pinned (OpenSpec.ofChange octetSpansSpec)

/-- ITS FALSE NEIGHBOUR: 'it returns false'. Refute it at one input. -/
def octetSpansWrong : ChangeSpec := { name := "octetSpans", fn := fun _ => fun
  | [d1, d2, d3] => { results := [.lit (.bool false)], args := [d1, d2, d3] }
  | _ => none }
def OctetSpansWrongFalsely : Prop := octetSpansRow.holds Try.pinned (OpenSpec.ofChange octetSpansWrong)

/-- 'binderylaw01.OctetLines': WHATEVER THE INPUT: true; the input reads as it did. -/
def octetLinesSpec : ChangeSpec := { name := "octetLines", fn := fun _ => fun
  | [d1, d2, d3] => { results := [.lit (.bool true)], args := [d1, d2, d3] }
  | _ => none }
def octetLinesRow : OpenClaim := { program := "ythghjdajohcedaa", sum := "28b396bd3c71698af4d4c429fd8783f9d5f55cabf4534b122fde17c65c37795b", func := "bindery/binderylaw01.OctetLines", spec := "octetLines", unfollowed := true, recurses := true, apart := false }
def OctetLinesSaid : Prop := octetLinesRow.holds Try.pinned (OpenSpec.ofChange octetLinesSpec)

/-- ITS FALSE NEIGHBOUR: 'it returns false'. Refute it at one input. -/
def octetLinesWrong : ChangeSpec := { name := "octetLines", fn := fun _ => fun
  | [d1, d2, d3] => { results := [.lit (.bool false)], args := [d1, d2, d3] }
  | _ => none }
def OctetLinesWrongFalsely : Prop := octetLinesRow.holds Try.pinned (OpenSpec.ofChange octetLinesWrong)

/-- 'binderylaw01.OctetParts': WHATEVER THE INPUT: true; the input reads as it did. -/
def octetPartsSpec : ChangeSpec := { name := "octetParts", fn := fun _ => fun
  | [d] => { results := [.lit (.bool true)], args := [d] }
  | _ => none }
def octetPartsRow : OpenClaim := { program := "ythghjdajohcedaa", sum := "28b396bd3c71698af4d4c429fd8783f9d5f55cabf4534b122fde17c65c37795b", func := "bindery/binderylaw01.OctetParts", spec := "octetParts", unfollowed := true, recurses := true, apart := false }
def OctetPartsSaid : Prop := octetPartsRow.holds Try.pinned (OpenSpec.ofChange octetPartsSpec)

/-- ITS FALSE NEIGHBOUR: 'it returns false'. Refute it at one input. -/
def octetPartsWrong : ChangeSpec := { name := "octetParts", fn := fun _ => fun
  | [d] => { results := [.lit (.bool false)], args := [d] }
  | _ => none }
def OctetPartsWrongFalsely : Prop := octetPartsRow.holds Try.pinned (OpenSpec.ofChange octetPartsWrong)

/-- 'binderylaw06.HexaEncodes': WHATEVER THE INPUT: true; the input reads as it did. -/
def hexaEncodesSpec : ChangeSpec := { name := "hexaEncodes", fn := fun _ => fun
  | [d] => { results := [.lit (.bool true)], args := [d] }
  | _ => none }
def hexaEncodesRow : OpenClaim := { program := "ythghjdajohcedaa", sum := "28b396bd3c71698af4d4c429fd8783f9d5f55cabf4534b122fde17c65c37795b", func := "bindery/binderylaw06.HexaEncodes", spec := "hexaEncodes", inPlace := ["internal/abi.NoEscape"], unfollowed := true, recurses := true, apart := false }
def HexaEncodesSaid : Prop := hexaEncodesRow.holds Try.pinned (OpenSpec.ofChange hexaEncodesSpec)

/-- ITS FALSE NEIGHBOUR: 'it returns false'. Refute it at one input. -/
def hexaEncodesWrong : ChangeSpec := { name := "hexaEncodes", fn := fun _ => fun
  | [d] => { results := [.lit (.bool false)], args := [d] }
  | _ => none }
def HexaEncodesWrongFalsely : Prop := hexaEncodesRow.holds Try.pinned (OpenSpec.ofChange hexaEncodesWrong)

/-- 'binderylaw06.HexaDecodes': WHATEVER THE INPUT: true; the input reads as it did. -/
def hexaDecodesSpec : ChangeSpec := { name := "hexaDecodes", fn := fun _ => fun
  | [d] => { results := [.lit (.bool true)], args := [d] }
  | _ => none }
def hexaDecodesRow : OpenClaim := { program := "ythghjdajohcedaa", sum := "28b396bd3c71698af4d4c429fd8783f9d5f55cabf4534b122fde17c65c37795b", func := "bindery/binderylaw06.HexaDecodes", spec := "hexaDecodes", inPlace := ["internal/abi.NoEscape"], unfollowed := true, recurses := true, apart := false }
def HexaDecodesSaid : Prop := hexaDecodesRow.holds Try.pinned (OpenSpec.ofChange hexaDecodesSpec)

/-- ITS FALSE NEIGHBOUR: 'it returns false'. Refute it at one input. -/
def hexaDecodesWrong : ChangeSpec := { name := "hexaDecodes", fn := fun _ => fun
  | [d] => { results := [.lit (.bool false)], args := [d] }
  | _ => none }
def HexaDecodesWrongFalsely : Prop := hexaDecodesRow.holds Try.pinned (OpenSpec.ofChange hexaDecodesWrong)

/-- 'binderylaw06.HexaBack': WHATEVER THE INPUT: true; the input reads as it did. -/
def hexaBackSpec : ChangeSpec := { name := "hexaBack", fn := fun _ => fun
  | [d] => { results := [.lit (.bool true)], args := [d] }
  | _ => none }
def hexaBackRow : OpenClaim := { program := "ythghjdajohcedaa", sum := "28b396bd3c71698af4d4c429fd8783f9d5f55cabf4534b122fde17c65c37795b", func := "bindery/binderylaw06.HexaBack", spec := "hexaBack", inPlace := ["internal/abi.NoEscape"], unfollowed := true, recurses := true, apart := false }
def HexaBackSaid : Prop := hexaBackRow.holds Try.pinned (OpenSpec.ofChange hexaBackSpec)

/-- ITS FALSE NEIGHBOUR: 'it returns false'. Refute it at one input. -/
def hexaBackWrong : ChangeSpec := { name := "hexaBack", fn := fun _ => fun
  | [d] => { results := [.lit (.bool false)], args := [d] }
  | _ => none }
def HexaBackWrongFalsely : Prop := hexaBackRow.holds Try.pinned (OpenSpec.ofChange hexaBackWrong)

/-- 'binderylaw06.HexaWhite': WHATEVER THE INPUT: true; the input reads as it did. -/
def hexaWhiteSpec : ChangeSpec := { name := "hexaWhite", fn := fun _ => fun
  | [d1, d2, d3] => { results := [.lit (.bool true)], args := [d1, d2, d3] }
  | _ => none }
def hexaWhiteRow : OpenClaim := { program := "ythghjdajohcedaa", sum := "28b396bd3c71698af4d4c429fd8783f9d5f55cabf4534b122fde17c65c37795b", func := "bindery/binderylaw06.HexaWhite", spec := "hexaWhite", inPlace := ["internal/abi.NoEscape"], unfollowed := true, recurses := true, apart := false }
def HexaWhiteSaid : Prop := hexaWhiteRow.holds Try.pinned (OpenSpec.ofChange hexaWhiteSpec)

/-- ITS FALSE NEIGHBOUR: 'it returns false'. Refute it at one input. -/
def hexaWhiteWrong : ChangeSpec := { name := "hexaWhite", fn := fun _ => fun
  | [d1, d2, d3] => { results := [.lit (.bool false)], args := [d1, d2, d3] }
  | _ => none }
def HexaWhiteWrongFalsely : Prop := hexaWhiteRow.holds Try.pinned (OpenSpec.ofChange hexaWhiteWrong)

/-- 'binderylaw15.TokenNext': WHATEVER THE INPUT: true; the input reads as it did. -/
def tokenNextSpec : ChangeSpec := { name := "tokenNext", fn := fun _ => fun
  | [d1, d2] => { results := [.lit (.bool true)], args := [d1, d2] }
  | _ => none }
def tokenNextRow : OpenClaim := { program := "ythghjdajohcedaa", sum := "28b396bd3c71698af4d4c429fd8783f9d5f55cabf4534b122fde17c65c37795b", func := "bindery/binderylaw15.TokenNext", spec := "tokenNext", inPlace := ["internal/bytealg.IndexByteString", "internal/bytealg.IndexString"], unfollowed := true, recurses := true, named := ["internal/bytealg.MaxLen"], apart := false }
def TokenNextSaid : Prop := tokenNextRow.holds Try.pinned (OpenSpec.ofChange tokenNextSpec)

/-- ITS FALSE NEIGHBOUR: 'it returns false'. Refute it at one input. -/
def tokenNextWrong : ChangeSpec := { name := "tokenNext", fn := fun _ => fun
  | [d1, d2] => { results := [.lit (.bool false)], args := [d1, d2] }
  | _ => none }
def TokenNextWrongFalsely : Prop := tokenNextRow.holds Try.pinned (OpenSpec.ofChange tokenNextWrong)

/-- 'binderylaw15.TokenAll': WHATEVER THE INPUT: true; the input reads as it did. -/
def tokenAllSpec : ChangeSpec := { name := "tokenAll", fn := fun _ => fun
  | [d] => { results := [.lit (.bool true)], args := [d] }
  | _ => none }
def tokenAllRow : OpenClaim := { program := "ythghjdajohcedaa", sum := "28b396bd3c71698af4d4c429fd8783f9d5f55cabf4534b122fde17c65c37795b", func := "bindery/binderylaw15.TokenAll", spec := "tokenAll", inPlace := ["internal/bytealg.IndexByteString", "internal/bytealg.IndexString"], unfollowed := true, recurses := true, named := ["internal/bytealg.MaxLen"], apart := false }
def TokenAllSaid : Prop := tokenAllRow.holds Try.pinned (OpenSpec.ofChange tokenAllSpec)

/-- ITS FALSE NEIGHBOUR: 'it returns false'. Refute it at one input. -/
def tokenAllWrong : ChangeSpec := { name := "tokenAll", fn := fun _ => fun
  | [d] => { results := [.lit (.bool false)], args := [d] }
  | _ => none }
def TokenAllWrongFalsely : Prop := tokenAllRow.holds Try.pinned (OpenSpec.ofChange tokenAllWrong)

/-- 'binderylaw15.TokenShift': WHATEVER THE INPUT: true; the input reads as it did. -/
def tokenShiftSpec : ChangeSpec := { name := "tokenShift", fn := fun _ => fun
  | [d1, d2, d3] => { results := [.lit (.bool true)], args := [d1, d2, d3] }
  | _ => none }
def tokenShiftRow : OpenClaim := { program := "ythghjdajohcedaa", sum := "28b396bd3c71698af4d4c429fd8783f9d5f55cabf4534b122fde17c65c37795b", func := "bindery/binderylaw15.TokenShift", spec := "tokenShift", inPlace := ["internal/bytealg.IndexByteString", "internal/bytealg.IndexString"], unfollowed := true, recurses := true, named := ["internal/bytealg.MaxLen"], apart := false }
def TokenShiftSaid : Prop := tokenShiftRow.holds Try.pinned (OpenSpec.ofChange tokenShiftSpec)

/-- ITS FALSE NEIGHBOUR: 'it returns false'. Refute it at one input. -/
def tokenShiftWrong : ChangeSpec := { name := "tokenShift", fn := fun _ => fun
  | [d1, d2, d3] => { results := [.lit (.bool false)], args := [d1, d2, d3] }
  | _ => none }
def TokenShiftWrongFalsely : Prop := tokenShiftRow.holds Try.pinned (OpenSpec.ofChange tokenShiftWrong)

/-- 'binderylaw15.TokenWhite': WHATEVER THE INPUT: true; the input reads as it did. -/
def tokenWhiteSpec : ChangeSpec := { name := "tokenWhite", fn := fun _ => fun
  | [d1, d2, d3] => { results := [.lit (.bool true)], args := [d1, d2, d3] }
  | _ => none }
def tokenWhiteRow : OpenClaim := { program := "ythghjdajohcedaa", sum := "28b396bd3c71698af4d4c429fd8783f9d5f55cabf4534b122fde17c65c37795b", func := "bindery/binderylaw15.TokenWhite", spec := "tokenWhite", inPlace := ["internal/bytealg.IndexByteString", "internal/bytealg.IndexString"], unfollowed := true, recurses := true, named := ["internal/bytealg.MaxLen"], apart := false }
def TokenWhiteSaid : Prop := tokenWhiteRow.holds Try.pinned (OpenSpec.ofChange tokenWhiteSpec)

/-- ITS FALSE NEIGHBOUR: 'it returns false'. Refute it at one input. -/
def tokenWhiteWrong : ChangeSpec := { name := "tokenWhite", fn := fun _ => fun
  | [d1, d2, d3] => { results := [.lit (.bool false)], args := [d1, d2, d3] }
  | _ => none }
def TokenWhiteWrongFalsely : Prop := tokenWhiteRow.holds Try.pinned (OpenSpec.ofChange tokenWhiteWrong)

/- THE SECOND FORM. 'bulk': how many values and letters a reading holds, each counted each time it is reached (what is shared counts as often as it is met; a slice's spare places count too). A statement '..UptoSaid' is the law's where the arguments, and the package variables that the reading takes, are together of bulk at most 1048576: NARROWER than '..Said'. Prove '..Said' where nothing that the law and all that it calls make is longer than what came in: it says more and counts as full. Else prove '..UptoSaid'. A law counts once. -/
mutual
def uptoBulk {H : Type} : DataW H → Nat
  | .lit (.string bytes) => bytes.length + 1
  | .lit _ => 1
  | .nil => 1
  | .ptr d => uptoBulk d + 1
  | .slice elems spare => uptoBulkAll elems + uptoBulkAll spare + 1
  | .agg parts => uptoBulkAll parts + 1
  | .iface _ d => uptoBulk d + 1
  | .map entries => uptoBulkEntries entries + 1
  | .held _ => 1
def uptoBulkAll {H : Type} : List (DataW H) → Nat
  | [] => 0
  | d :: r => uptoBulk d + uptoBulkAll r
def uptoBulkEntries {H : Type} : List (Lit × DataW H) → Nat
  | [] => 0
  | x :: r => uptoBulkEntry x + uptoBulkEntries r
def uptoBulkEntry {H : Type} : Lit × DataW H → Nat
  | (.string bytes, d) => bytes.length + uptoBulk d + 1
  | (_, d) => uptoBulk d + 1
 end
def uptoSmall : (H : Type) → List (DataW H) → Bool := fun _ ds => decide (uptoBulkAll ds ≤ 1048576)
def OpenSpec.upto (s : _root_.Go.ChangeSpec) : _root_.Go.OpenSpec := { _root_.Go.OpenSpec.ofChange s with cond := some uptoSmall }

/-- 'binderylaw01.OctetKinds', WHERE WHAT IT READS IS OF BULK AT MOST 1048576: true; the input reads as it did. -/
def octetKindsUptoRow : OpenClaim := { program := "ythghjdajohcedaa", sum := "28b396bd3c71698af4d4c429fd8783f9d5f55cabf4534b122fde17c65c37795b", func := "bindery/binderylaw01.OctetKinds", spec := "octetKinds", unfollowed := true, recurses := true, apart := false, narrowed := true }
def OctetKindsUptoSaid : Prop := octetKindsUptoRow.holds Try.pinned (OpenSpec.upto octetKindsSpec)

/-- 'binderylaw01.OctetSpans', WHERE WHAT IT READS IS OF BULK AT MOST 1048576: true; the input reads as it did. -/
def octetSpansUptoRow : OpenClaim := { program := "ythghjdajohcedaa", sum := "28b396bd3c71698af4d4c429fd8783f9d5f55cabf4534b122fde17c65c37795b", func := "bindery/binderylaw01.OctetSpans", spec := "octetSpans", unfollowed := true, recurses := true, apart := false, narrowed := true }
def OctetSpansUptoSaid : Prop := octetSpansUptoRow.holds Try.pinned (OpenSpec.upto octetSpansSpec)

/-- 'binderylaw01.OctetLines', WHERE WHAT IT READS IS OF BULK AT MOST 1048576: true; the input reads as it did. -/
def octetLinesUptoRow : OpenClaim := { program := "ythghjdajohcedaa", sum := "28b396bd3c71698af4d4c429fd8783f9d5f55cabf4534b122fde17c65c37795b", func := "bindery/binderylaw01.OctetLines", spec := "octetLines", unfollowed := true, recurses := true, apart := false, narrowed := true }
def OctetLinesUptoSaid : Prop := octetLinesUptoRow.holds Try.pinned (OpenSpec.upto octetLinesSpec)

/-- 'binderylaw01.OctetParts', WHERE WHAT IT READS IS OF BULK AT MOST 1048576: true; the input reads as it did. -/
def octetPartsUptoRow : OpenClaim := { program := "ythghjdajohcedaa", sum := "28b396bd3c71698af4d4c429fd8783f9d5f55cabf4534b122fde17c65c37795b", func := "bindery/binderylaw01.OctetParts", spec := "octetParts", unfollowed := true, recurses := true, apart := false, narrowed := true }
def OctetPartsUptoSaid : Prop := octetPartsUptoRow.holds Try.pinned (OpenSpec.upto octetPartsSpec)

/-- 'binderylaw06.HexaEncodes', WHERE WHAT IT READS IS OF BULK AT MOST 1048576: true; the input reads as it did. -/
def hexaEncodesUptoRow : OpenClaim := { program := "ythghjdajohcedaa", sum := "28b396bd3c71698af4d4c429fd8783f9d5f55cabf4534b122fde17c65c37795b", func := "bindery/binderylaw06.HexaEncodes", spec := "hexaEncodes", inPlace := ["internal/abi.NoEscape"], unfollowed := true, recurses := true, apart := false, narrowed := true }
def HexaEncodesUptoSaid : Prop := hexaEncodesUptoRow.holds Try.pinned (OpenSpec.upto hexaEncodesSpec)

/-- 'binderylaw06.HexaDecodes', WHERE WHAT IT READS IS OF BULK AT MOST 1048576: true; the input reads as it did. -/
def hexaDecodesUptoRow : OpenClaim := { program := "ythghjdajohcedaa", sum := "28b396bd3c71698af4d4c429fd8783f9d5f55cabf4534b122fde17c65c37795b", func := "bindery/binderylaw06.HexaDecodes", spec := "hexaDecodes", inPlace := ["internal/abi.NoEscape"], unfollowed := true, recurses := true, apart := false, narrowed := true }
def HexaDecodesUptoSaid : Prop := hexaDecodesUptoRow.holds Try.pinned (OpenSpec.upto hexaDecodesSpec)

/-- 'binderylaw06.HexaBack', WHERE WHAT IT READS IS OF BULK AT MOST 1048576: true; the input reads as it did. -/
def hexaBackUptoRow : OpenClaim := { program := "ythghjdajohcedaa", sum := "28b396bd3c71698af4d4c429fd8783f9d5f55cabf4534b122fde17c65c37795b", func := "bindery/binderylaw06.HexaBack", spec := "hexaBack", inPlace := ["internal/abi.NoEscape"], unfollowed := true, recurses := true, apart := false, narrowed := true }
def HexaBackUptoSaid : Prop := hexaBackUptoRow.holds Try.pinned (OpenSpec.upto hexaBackSpec)

/-- 'binderylaw06.HexaWhite', WHERE WHAT IT READS IS OF BULK AT MOST 1048576: true; the input reads as it did. -/
def hexaWhiteUptoRow : OpenClaim := { program := "ythghjdajohcedaa", sum := "28b396bd3c71698af4d4c429fd8783f9d5f55cabf4534b122fde17c65c37795b", func := "bindery/binderylaw06.HexaWhite", spec := "hexaWhite", inPlace := ["internal/abi.NoEscape"], unfollowed := true, recurses := true, apart := false, narrowed := true }
def HexaWhiteUptoSaid : Prop := hexaWhiteUptoRow.holds Try.pinned (OpenSpec.upto hexaWhiteSpec)

/-- 'binderylaw15.TokenNext', WHERE WHAT IT READS IS OF BULK AT MOST 1048576: true; the input reads as it did. -/
def tokenNextUptoRow : OpenClaim := { program := "ythghjdajohcedaa", sum := "28b396bd3c71698af4d4c429fd8783f9d5f55cabf4534b122fde17c65c37795b", func := "bindery/binderylaw15.TokenNext", spec := "tokenNext", inPlace := ["internal/bytealg.IndexByteString", "internal/bytealg.IndexString"], unfollowed := true, recurses := true, named := ["internal/bytealg.MaxLen"], apart := false, narrowed := true }
def TokenNextUptoSaid : Prop := tokenNextUptoRow.holds Try.pinned (OpenSpec.upto tokenNextSpec)

/-- 'binderylaw15.TokenAll', WHERE WHAT IT READS IS OF BULK AT MOST 1048576: true; the input reads as it did. -/
def tokenAllUptoRow : OpenClaim := { program := "ythghjdajohcedaa", sum := "28b396bd3c71698af4d4c429fd8783f9d5f55cabf4534b122fde17c65c37795b", func := "bindery/binderylaw15.TokenAll", spec := "tokenAll", inPlace := ["internal/bytealg.IndexByteString", "internal/bytealg.IndexString"], unfollowed := true, recurses := true, named := ["internal/bytealg.MaxLen"], apart := false, narrowed := true }
def TokenAllUptoSaid : Prop := tokenAllUptoRow.holds Try.pinned (OpenSpec.upto tokenAllSpec)

/-- 'binderylaw15.TokenShift', WHERE WHAT IT READS IS OF BULK AT MOST 1048576: true; the input reads as it did. -/
def tokenShiftUptoRow : OpenClaim := { program := "ythghjdajohcedaa", sum := "28b396bd3c71698af4d4c429fd8783f9d5f55cabf4534b122fde17c65c37795b", func := "bindery/binderylaw15.TokenShift", spec := "tokenShift", inPlace := ["internal/bytealg.IndexByteString", "internal/bytealg.IndexString"], unfollowed := true, recurses := true, named := ["internal/bytealg.MaxLen"], apart := false, narrowed := true }
def TokenShiftUptoSaid : Prop := tokenShiftUptoRow.holds Try.pinned (OpenSpec.upto tokenShiftSpec)

/-- 'binderylaw15.TokenWhite', WHERE WHAT IT READS IS OF BULK AT MOST 1048576: true; the input reads as it did. -/
def tokenWhiteUptoRow : OpenClaim := { program := "ythghjdajohcedaa", sum := "28b396bd3c71698af4d4c429fd8783f9d5f55cabf4534b122fde17c65c37795b", func := "bindery/binderylaw15.TokenWhite", spec := "tokenWhite", inPlace := ["internal/bytealg.IndexByteString", "internal/bytealg.IndexString"], unfollowed := true, recurses := true, named := ["internal/bytealg.MaxLen"], apart := false, narrowed := true }
def TokenWhiteUptoSaid : Prop := tokenWhiteUptoRow.holds Try.pinned (OpenSpec.upto tokenWhiteSpec)

end Rows
end Go.Proofs.Ythghjdajohcedaa
