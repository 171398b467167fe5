/- What the hand-made contracts of this seat import: the seat's program, the library's laws and the printed words. -/
import Derived.Test.YtgoajdnofekcaaaProg
import Derived.Below
import Derived.Deep.Draws
import Derived.Deep.AppendLies
import Derived.Maps.AppendAt
import Derived.OwnWalk
import Derived.Laws.BytesArg
import Derived.Laws.MakeOwn
import Derived.Laws.OwnMore
import Derived.Deep.OwnRows
import Derived.Tactics
import Derived.Lib.ConvBytes
import Derived.Laws.Slices
import Derived.WalkKit
import Derived.KernelRfl
import Derived.RowKit3
import Derived.Deep.LoopGhost
import Derived.Deep.QuietTactic
import Derived.BigQuiet
import Derived.WideLaws
import Derived.Deep.DeepCutAuto
import Derived.Deep.CutBlock
import Derived.Deep.RegionHeld3
import Derived.Laws.Rows
import Derived.Lib.AppendStr
import Derived.ArgAppend
import Derived.Laws.IdiomCopy
import Derived.OrdersHeld
import Derived.Laws.BitsLemmas
import Derived.RowKit
import Derived.Test.YtgoajdnofekcaaaWWords
import Derived.Test.YtgoajdnofekcaaaWLast
import Derived.Test.YtgoajdnofekcaaaWQPut
import Derived.Test.YtgoajdnofekcaaaWMore
import Derived.Test.YtgoajdnofekcaaaWEqStruct
namespace Go.Proofs.Ytgoajdnofekcaaa.Hand
open Go.RowKit Go.Proofs.YtgoajdnofekcaaaW.PrintWords Go.Proofs.YtgoajdnofekcaaaW.PrintLast Go.Proofs.YtgoajdnofekcaaaW.PrintMore

/-- What a call leaves: all but the blocks of S, and what is new. -/
structure Fr (w w' : World) (S : Nat → Prop) : Prop where
  os : w'.os = w.os
  tape : w'.tape = w.tape
  output : w'.output = w.output
  size : w.heap.size ≤ w'.heap.size
  block : ∀ k, k < w.heap.size → ¬ S k → w'.heap[k]? = w.heap[k]?

section
variable {w w' w1 w2 : World} {S S1 S2 : Nat → Prop}
theorem Fr.refl (w : World) (S : Nat → Prop) : Fr w w S := ⟨rfl, rfl, rfl, Nat.le_refl _, fun _ _ _ => rfl⟩
theorem Fr.mono (h : Fr w w' S1) (hs : ∀ k, k < w.heap.size → S1 k → S k) : Fr w w' S := ⟨h.os, h.tape, h.output, h.size, fun k hk hn => h.block k hk (fun h1 => hn (hs k hk h1))⟩
theorem Fr.trans (h : Fr w w1 S) (k : Fr w1 w2 S2) (hs : ∀ k, k < w.heap.size → S2 k → S k) : Fr w w2 S :=
  ⟨k.os.trans h.os, k.tape.trans h.tape, k.output.trans h.output, Nat.le_trans h.size k.size, fun i hi hn => (k.block i (Nat.lt_of_lt_of_le hi h.size) (fun h2 => hn (hs i hi h2))).trans (h.block i hi hn)⟩
theorem Fr.then_ (h : Fr w w1 S) (k : Fr w1 w2 S) : Fr w w2 S := h.trans k (fun _ _ h => h)
theorem Fr.drew (h : Fr w w1 S) : Fr w w1.drew S := ⟨h.os, h.tape, h.output, h.size, h.block⟩
theorem Fr.drewN (h : Fr w w1 S) (n : Nat) : Fr w (w1.drewN n) S := ⟨h.os, h.tape, h.output, h.size, h.block⟩
theorem Fr.of_drew (h : Fr w.drew w1 S) : Fr w w1 S := ⟨h.os, h.tape, h.output, h.size, h.block⟩
theorem Fr.of_drewN {n : Nat} (h : Fr (w.drewN n) w1 S) : Fr w w1 S := ⟨h.os, h.tape, h.output, h.size, h.block⟩
theorem Fr.of_below (h : Below w.heap.size w w1) (S : Nat → Prop) : Fr w w1 S := ⟨h.os, h.tape, h.output, h.size, fun k hk _ => h.block k hk⟩
theorem Fr.of_drawn (h : Drawn0 w w1) (S : Nat → Prop) : Fr w w1 S := by
  obtain ⟨n, rfl⟩ := h.out
  exact (Fr.refl w S).drewN n
theorem Fr.of_grown {row : Option Nat} (h : w.grownBy w1 row) : Fr w w1 (fun k => row = some k) := ⟨h.os, h.tape, h.output, h.size, fun k hk hn => h.block k hk (fun e => hn e.symm)⟩
theorem Fr.alloc (h : Fr w w1 S) (o : Obj) : Fr w (w1.alloc o) S := h.then_ (Fr.of_below (below_alloc (Below.refl _ _) o) S)
theorem Fr.setCell (h : Fr w w1 S) {p : Addr} (hp : p.block < w.heap.size → S p.block) (u : Value) : Fr w (w1.setCell p u) S :=
  h.trans (S2 := fun k => k = p.block) ⟨rfl, rfl, rfl, by simp [World.setCell], fun k _ hn => Below.heap_setCell _ _ _ _ hn⟩ (fun k hk e => by subst e; exact hp hk)
theorem Fr.set1 {g : Nat} (h : Fr w w1 (· = g)) (o : Nat) (u : Value) : Fr w (w1.setCell ⟨g, o, none⟩ u) (· = g) := h.setCell (p := ⟨g, o, none⟩) (fun _ => rfl) u
theorem Fr.below {B : Nat} (h : Fr w w1 S) (hB : ∀ k, S k → B ≤ k) (hw : B ≤ w.heap.size) : Below B w w1 :=
  ⟨h.os, h.tape, h.output, h.size, fun k hk => h.block k (by omega) (fun hs => by have := hB k hs; omega)⟩
theorem Fr.blk (h : Fr w w1 S) {g : Nat} {o : Obj} (hb : w.heap[g]? = some o) (hg : ¬ S g) : w1.heap[g]? = some o := (h.block g (blk_lt hb) hg).trans hb
theorem Fr.cell (h : Fr w w1 S) {a : Addr} {v : Value} (hc : w.cell? a = some v) (hg : ¬ S a.block) : w1.cell? a = some v := by
  have := h.block a.block (World.block_lt_of_cell? w a hc) hg
  simpa [World.cell?, this] using hc
theorem Fr.own (h : Fr w w1 S) {base : Nat} {e : TypeId} {size n : Nat} {v : Value} {xs : List Value} (ho : w.ownsRow base e size v n xs) (hg : ∀ k, v.ownBlock = some k → ¬ S k) : w1.ownsRow base e size v n xs := by
  refine own_move ho (fun k hk => h.block k ?_ (hg k hk))
  exact (ho.lt k hk).2
end
theorem bt_nat (s : ByteArray) (k : Nat) (h : k < s.size) : bt s k = (s[k].toNat : Int) := (bt_at s k h).symm
theorem toList_nil {s : ByteArray} (h : s.size = 0) : s.toList.isEmpty = true := by
  rw [ByteArray.toList_eq, List.isEmpty_iff_length_eq_zero, data_length]; exact h
theorem toList_some {s : ByteArray} (h : s.size ≠ 0) : s.toList.isEmpty = false := by
  rw [ByteArray.toList_eq]
  cases hd : s.data.toList with
  | nil => exact absurd (by rw [← data_length, hd]; rfl) h
  | cons a l => rfl
/-! '[]byte(s)': the new row's cells, that they may be written, and the string made of them behind a store. -/
theorem bytes_cell (w : World) (e : TypeId) (s : ByteArray) (i : Nat) (h : i < s.size) : (Lib.bytesWorld w e s).cell? ⟨w.heap.size, i, none⟩ = some (.int .u8 (bt s i)) := by
  rw [Lib.bytesWorld_cell w e s i h, bt_nat s i h]
  have : i < s.data.toList.length := by rw [data_length]; exact h
  simp [List.getD_eq_getElem?_getD, List.getElem?_eq_getElem this]
  rfl
theorem bytes_free (w : World) (e : TypeId) (s : ByteArray) (i : Nat) (h : i < s.size) : (Lib.bytesWorld w e s).frozen? ⟨w.heap.size, i, none⟩ = false := by
  have h2 : s.size ≤ (Lib.bytesCells w e s).size := by simp [Lib.bytesCells]
  simp [World.frozen?, Lib.bytesWorld_at_new]
  omega
theorem bytes_back {P : Program} (w : World) (src dst e : TypeId) (hs : P.underlying src = some (.slice e)) (he : P.underlying e = some (.int .u8)) (hd : P.underlying dst = some .string) (s : ByteArray) (i : Nat) (h : i < s.size) (v : Int) (cap : Nat) :
    (convert src dst (.slice (some ⟨w.heap.size, 0, none⟩) s.size cap)).run P ((Lib.bytesWorld w e s).setCell ⟨w.heap.size, i, none⟩ (.int .u8 v)) =
      .ok (.string (strOfNums ((bytesOf s).set i v))) ((Lib.bytesWorld w e s).setCell ⟨w.heap.size, i, none⟩ (.int .u8 v)) := by
  refine run_convert_bytes_arg _ src e hs he w.heap.size 0 s.size cap ((bytesOf s).set i v) (by rw [List.length_set, bytesOf_length]) (fun j hj => ?_) dst hd
  rw [Nat.zero_add]
  by_cases hij : j = i
  · subst hij
    have : (((bytesOf s).set j v).getD j 0) = v := by
      rw [List.getD_eq_getElem?_getD, List.getElem?_set_self (by rw [bytesOf_length]; exact h)]; rfl
    rw [this]
    have hc := bytes_cell w e s j h
    exact World.cell?_setCell_same _ _ _ hc
  · rw [World.cell?_setCell_other _ _ _ _ (by intro e; injection e; omega), bytes_cell w e s j hj]
    have : (((bytesOf s).set i v).getD j 0) = bt s j := by
      rw [List.getD_eq_getElem?_getD, List.getElem?_set_ne (by omega), ← List.getD_eq_getElem?_getD]
      exact rd_bytesOf s j
    rw [this]
end Go.Proofs.Ytgoajdnofekcaaa.Hand
