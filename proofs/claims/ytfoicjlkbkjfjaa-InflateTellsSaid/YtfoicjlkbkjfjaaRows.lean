/-
  No cell of these rows narrows 'for every input' (looked for: loops, veiled, ifaces, maps, wideKeys, modest, calm, conditions, laid).
  DERIVED. THE GIVEN ROWS OF THIS SEAT. 7 by the template 'for every input the law returns true; each argument reads behind the call as it read before'; 0 by the template 'total and deterministic' (their statements: YtfoicjlkbkjfjaaTotals.lean).
  GIVEN WITH THE SEED: the statements are not yours to turn. If you find one false, say at which input.
  Laid BY PROGRAM, IN A SANDBOX (cutbox-rows.mjs): the forced cells as the released guide's own fill.sh prints them over the translation f1f06e73876b06b7… (all of the seat's roots in one cut). By AI agents, Wed Nov 11 2026. No macro, syntax, notation, axiom, sorry.
-/
import Derived.Test.YtfoicjlkbkjfjaaChecked
import GoSem.Claim
import GoSem.ClaimJoined
import GoSem.ClaimMapViews
import Derived.JoinedTies
import Derived.KernelRfl
namespace Go.Proofs.Ytfoicjlkbkjfjaa
/- THE CELL 'sum', in the pinned program and in every row, IS THE sha256 OF THE DUMP (.gsa) THAT YtfoicjlkbkjfjaaProg.lean LOADS. Nothing in Lean hashes anything: it is a label: what it is worth is what the hold of that sum in a sandbox is worth. -/
noncomputable def Try.pinned : Pinned := { name := "ytfoicjlkbkjfjaa", sum := "f1f06e73876b06b7c9c0848b9f463844d8a06412016f8829ac2641fd8bd073f0", checked := Try.checked }
namespace Rows
def none {H : Type} : Left H := { results := [], args := [] }

/-- 'binderylaw11.SqueezeStores': WHATEVER THE INPUT: true; the input reads as it did. -/
def squeezeStoresSpec : ChangeSpec := { name := "squeezeStores", fn := fun _ => fun
  | [d] => { results := [.lit (.bool true)], args := [d] }
  | _ => none }
def squeezeStoresRow : OpenClaim := { program := "ytfoicjlkbkjfjaa", sum := "f1f06e73876b06b7c9c0848b9f463844d8a06412016f8829ac2641fd8bd073f0", func := "bindery/binderylaw11.SqueezeStores", spec := "squeezeStores", apart := false }
def SqueezeStoresSaid : Prop := squeezeStoresRow.holds Try.pinned (OpenSpec.ofChange squeezeStoresSpec)

/-- ITS FALSE NEIGHBOUR: 'it returns false'. Refute it at one input. -/
def squeezeStoresWrong : ChangeSpec := { name := "squeezeStores", fn := fun _ => fun
  | [d] => { results := [.lit (.bool false)], args := [d] }
  | _ => none }
def SqueezeStoresWrongFalsely : Prop := squeezeStoresRow.holds Try.pinned (OpenSpec.ofChange squeezeStoresWrong)

/-- 'binderylaw11.SqueezeFixes': WHATEVER THE INPUT: true; the input reads as it did. -/
def squeezeFixesSpec : ChangeSpec := { name := "squeezeFixes", fn := fun _ => fun
  | [d] => { results := [.lit (.bool true)], args := [d] }
  | _ => none }
def squeezeFixesRow : OpenClaim := { program := "ytfoicjlkbkjfjaa", sum := "f1f06e73876b06b7c9c0848b9f463844d8a06412016f8829ac2641fd8bd073f0", func := "bindery/binderylaw11.SqueezeFixes", spec := "squeezeFixes", apart := false }
def SqueezeFixesSaid : Prop := squeezeFixesRow.holds Try.pinned (OpenSpec.ofChange squeezeFixesSpec)

/-- ITS FALSE NEIGHBOUR: 'it returns false'. Refute it at one input. -/
def squeezeFixesWrong : ChangeSpec := { name := "squeezeFixes", fn := fun _ => fun
  | [d] => { results := [.lit (.bool false)], args := [d] }
  | _ => none }
def SqueezeFixesWrongFalsely : Prop := squeezeFixesRow.holds Try.pinned (OpenSpec.ofChange squeezeFixesWrong)

/-- 'binderylaw11.SqueezeShort': WHATEVER THE INPUT: true; the input reads as it did. -/
def squeezeShortSpec : ChangeSpec := { name := "squeezeShort", fn := fun _ => fun
  | [d1, d2, d3] => { results := [.lit (.bool true)], args := [d1, d2, d3] }
  | _ => none }
def squeezeShortRow : OpenClaim := { program := "ytfoicjlkbkjfjaa", sum := "f1f06e73876b06b7c9c0848b9f463844d8a06412016f8829ac2641fd8bd073f0", func := "bindery/binderylaw11.SqueezeShort", spec := "squeezeShort", apart := false }
def SqueezeShortSaid : Prop := squeezeShortRow.holds Try.pinned (OpenSpec.ofChange squeezeShortSpec)

/-- ITS FALSE NEIGHBOUR: 'it returns false'. Refute it at one input. -/
def squeezeShortWrong : ChangeSpec := { name := "squeezeShort", fn := fun _ => fun
  | [d1, d2, d3] => { results := [.lit (.bool false)], args := [d1, d2, d3] }
  | _ => none }
def SqueezeShortWrongFalsely : Prop := squeezeShortRow.holds Try.pinned (OpenSpec.ofChange squeezeShortWrong)

/-- 'binderylaw10.InflateTells': WHATEVER THE INPUT: true; the input reads as it did. -/
def inflateTellsSpec : ChangeSpec := { name := "inflateTells", fn := fun _ => fun
  | [d1, d2] => { results := [.lit (.bool true)], args := [d1, d2] }
  | _ => none }
def inflateTellsRow : OpenClaim := { program := "ytfoicjlkbkjfjaa", sum := "f1f06e73876b06b7c9c0848b9f463844d8a06412016f8829ac2641fd8bd073f0", func := "bindery/binderylaw10.InflateTells", spec := "inflateTells", unfollowed := true, recurses := true, apart := false }
def InflateTellsSaid : Prop := inflateTellsRow.holds Try.pinned (OpenSpec.ofChange inflateTellsSpec)

/-- ITS FALSE NEIGHBOUR: 'it returns false'. Refute it at one input. -/
def inflateTellsWrong : ChangeSpec := { name := "inflateTells", fn := fun _ => fun
  | [d1, d2] => { results := [.lit (.bool false)], args := [d1, d2] }
  | _ => none }
def InflateTellsWrongFalsely : Prop := inflateTellsRow.holds Try.pinned (OpenSpec.ofChange inflateTellsWrong)

/-- 'binderylaw10.InflateCut': WHATEVER THE INPUT: true; the input reads as it did. -/
def inflateCutSpec : ChangeSpec := { name := "inflateCut", fn := fun _ => fun
  | [d1, d2, d3] => { results := [.lit (.bool true)], args := [d1, d2, d3] }
  | _ => none }
def inflateCutRow : OpenClaim := { program := "ytfoicjlkbkjfjaa", sum := "f1f06e73876b06b7c9c0848b9f463844d8a06412016f8829ac2641fd8bd073f0", func := "bindery/binderylaw10.InflateCut", spec := "inflateCut", unfollowed := true, recurses := true, apart := false }
def InflateCutSaid : Prop := inflateCutRow.holds Try.pinned (OpenSpec.ofChange inflateCutSpec)

/-- ITS FALSE NEIGHBOUR: 'it returns false'. Refute it at one input. -/
def inflateCutWrong : ChangeSpec := { name := "inflateCut", fn := fun _ => fun
  | [d1, d2, d3] => { results := [.lit (.bool false)], args := [d1, d2, d3] }
  | _ => none }
def InflateCutWrongFalsely : Prop := inflateCutRow.holds Try.pinned (OpenSpec.ofChange inflateCutWrong)

/-- 'binderylaw10.InflateRoom': WHATEVER THE INPUT: true; the input reads as it did. -/
def inflateRoomSpec : ChangeSpec := { name := "inflateRoom", fn := fun _ => fun
  | [d1, d2, d3] => { results := [.lit (.bool true)], args := [d1, d2, d3] }
  | _ => none }
def inflateRoomRow : OpenClaim := { program := "ytfoicjlkbkjfjaa", sum := "f1f06e73876b06b7c9c0848b9f463844d8a06412016f8829ac2641fd8bd073f0", func := "bindery/binderylaw10.InflateRoom", spec := "inflateRoom", unfollowed := true, recurses := true, apart := false }
def InflateRoomSaid : Prop := inflateRoomRow.holds Try.pinned (OpenSpec.ofChange inflateRoomSpec)

/-- ITS FALSE NEIGHBOUR: 'it returns false'. Refute it at one input. -/
def inflateRoomWrong : ChangeSpec := { name := "inflateRoom", fn := fun _ => fun
  | [d1, d2, d3] => { results := [.lit (.bool false)], args := [d1, d2, d3] }
  | _ => none }
def InflateRoomWrongFalsely : Prop := inflateRoomRow.holds Try.pinned (OpenSpec.ofChange inflateRoomWrong)

/-- 'binderylaw11.SqueezeBack': WHATEVER THE INPUT: true; the input reads as it did. -/
def squeezeBackSpec : ChangeSpec := { name := "squeezeBack", fn := fun _ => fun
  | [d] => { results := [.lit (.bool true)], args := [d] }
  | _ => none }
def squeezeBackRow : OpenClaim := { program := "ytfoicjlkbkjfjaa", sum := "f1f06e73876b06b7c9c0848b9f463844d8a06412016f8829ac2641fd8bd073f0", func := "bindery/binderylaw11.SqueezeBack", spec := "squeezeBack", unfollowed := true, recurses := true, apart := false }
def SqueezeBackSaid : Prop := squeezeBackRow.holds Try.pinned (OpenSpec.ofChange squeezeBackSpec)

/-- ITS FALSE NEIGHBOUR: 'it returns false'. Refute it at one input. -/
def squeezeBackWrong : ChangeSpec := { name := "squeezeBack", fn := fun _ => fun
  | [d] => { results := [.lit (.bool false)], args := [d] }
  | _ => none }
def SqueezeBackWrongFalsely : Prop := squeezeBackRow.holds Try.pinned (OpenSpec.ofChange squeezeBackWrong)

/- THE SECOND FORM. 'bulk': how many values and letters a reading holds, each counted each time it is reached (what is shared counts as often as it is met; a slice's spare places count too). A statement '..UptoSaid' is the law's where the arguments, and the package variables that the reading takes, are together of bulk at most 1048576: NARROWER than '..Said'. Prove '..Said' where nothing that the law and all that it calls make is longer than what came in: it says more and counts as full. Else prove '..UptoSaid'. A law counts once. -/
mutual
def uptoBulk {H : Type} : DataW H → Nat
  | .lit (.string bytes) => bytes.length + 1
  | .lit _ => 1
  | .nil => 1
  | .ptr d => uptoBulk d + 1
  | .slice elems spare => uptoBulkAll elems + uptoBulkAll spare + 1
  | .agg parts => uptoBulkAll parts + 1
  | .iface _ d => uptoBulk d + 1
  | .map entries => uptoBulkEntries entries + 1
  | .held _ => 1
def uptoBulkAll {H : Type} : List (DataW H) → Nat
  | [] => 0
  | d :: r => uptoBulk d + uptoBulkAll r
def uptoBulkEntries {H : Type} : List (Lit × DataW H) → Nat
  | [] => 0
  | x :: r => uptoBulkEntry x + uptoBulkEntries r
def uptoBulkEntry {H : Type} : Lit × DataW H → Nat
  | (.string bytes, d) => bytes.length + uptoBulk d + 1
  | (_, d) => uptoBulk d + 1
 end
def uptoSmall : (H : Type) → List (DataW H) → Bool := fun _ ds => decide (uptoBulkAll ds ≤ 1048576)
def OpenSpec.upto (s : _root_.Go.ChangeSpec) : _root_.Go.OpenSpec := { _root_.Go.OpenSpec.ofChange s with cond := some uptoSmall }

/-- 'binderylaw11.SqueezeStores', WHERE WHAT IT READS IS OF BULK AT MOST 1048576: true; the input reads as it did. -/
def squeezeStoresUptoRow : OpenClaim := { program := "ytfoicjlkbkjfjaa", sum := "f1f06e73876b06b7c9c0848b9f463844d8a06412016f8829ac2641fd8bd073f0", func := "bindery/binderylaw11.SqueezeStores", spec := "squeezeStores", apart := false, narrowed := true }
def SqueezeStoresUptoSaid : Prop := squeezeStoresUptoRow.holds Try.pinned (OpenSpec.upto squeezeStoresSpec)

/-- 'binderylaw11.SqueezeFixes', WHERE WHAT IT READS IS OF BULK AT MOST 1048576: true; the input reads as it did. -/
def squeezeFixesUptoRow : OpenClaim := { program := "ytfoicjlkbkjfjaa", sum := "f1f06e73876b06b7c9c0848b9f463844d8a06412016f8829ac2641fd8bd073f0", func := "bindery/binderylaw11.SqueezeFixes", spec := "squeezeFixes", apart := false, narrowed := true }
def SqueezeFixesUptoSaid : Prop := squeezeFixesUptoRow.holds Try.pinned (OpenSpec.upto squeezeFixesSpec)

/-- 'binderylaw11.SqueezeShort', WHERE WHAT IT READS IS OF BULK AT MOST 1048576: true; the input reads as it did. -/
def squeezeShortUptoRow : OpenClaim := { program := "ytfoicjlkbkjfjaa", sum := "f1f06e73876b06b7c9c0848b9f463844d8a06412016f8829ac2641fd8bd073f0", func := "bindery/binderylaw11.SqueezeShort", spec := "squeezeShort", apart := false, narrowed := true }
def SqueezeShortUptoSaid : Prop := squeezeShortUptoRow.holds Try.pinned (OpenSpec.upto squeezeShortSpec)

/-- 'binderylaw10.InflateTells', WHERE WHAT IT READS IS OF BULK AT MOST 1048576: true; the input reads as it did. -/
def inflateTellsUptoRow : OpenClaim := { program := "ytfoicjlkbkjfjaa", sum := "f1f06e73876b06b7c9c0848b9f463844d8a06412016f8829ac2641fd8bd073f0", func := "bindery/binderylaw10.InflateTells", spec := "inflateTells", unfollowed := true, recurses := true, apart := false, narrowed := true }
def InflateTellsUptoSaid : Prop := inflateTellsUptoRow.holds Try.pinned (OpenSpec.upto inflateTellsSpec)

/-- 'binderylaw10.InflateCut', WHERE WHAT IT READS IS OF BULK AT MOST 1048576: true; the input reads as it did. -/
def inflateCutUptoRow : OpenClaim := { program := "ytfoicjlkbkjfjaa", sum := "f1f06e73876b06b7c9c0848b9f463844d8a06412016f8829ac2641fd8bd073f0", func := "bindery/binderylaw10.InflateCut", spec := "inflateCut", unfollowed := true, recurses := true, apart := false, narrowed := true }
def InflateCutUptoSaid : Prop := inflateCutUptoRow.holds Try.pinned (OpenSpec.upto inflateCutSpec)

/-- 'binderylaw10.InflateRoom', WHERE WHAT IT READS IS OF BULK AT MOST 1048576: true; the input reads as it did. -/
def inflateRoomUptoRow : OpenClaim := { program := "ytfoicjlkbkjfjaa", sum := "f1f06e73876b06b7c9c0848b9f463844d8a06412016f8829ac2641fd8bd073f0", func := "bindery/binderylaw10.InflateRoom", spec := "inflateRoom", unfollowed := true, recurses := true, apart := false, narrowed := true }
def InflateRoomUptoSaid : Prop := inflateRoomUptoRow.holds Try.pinned (OpenSpec.upto inflateRoomSpec)

/-- 'binderylaw11.SqueezeBack', WHERE WHAT IT READS IS OF BULK AT MOST 1048576: true; the input reads as it did. -/
def squeezeBackUptoRow : OpenClaim := { program := "ytfoicjlkbkjfjaa", sum := "f1f06e73876b06b7c9c0848b9f463844d8a06412016f8829ac2641fd8bd073f0", func := "bindery/binderylaw11.SqueezeBack", spec := "squeezeBack", unfollowed := true, recurses := true, apart := false, narrowed := true }
def SqueezeBackUptoSaid : Prop := squeezeBackUptoRow.holds Try.pinned (OpenSpec.upto squeezeBackSpec)

end Rows
end Go.Proofs.Ytfoicjlkbkjfjaa
