/- What the hand-made contracts of this seat import: the seat's program, the library's laws and the printed words. -/
import Derived.Test.YtfoicjlkbkjfjaaProg
import Derived.Below
import Derived.Deep.Draws
import Derived.Deep.AppendLies
import Derived.Maps.AppendAt
import Derived.OwnWalk
import Derived.Laws.BytesArg
import Derived.Laws.MakeOwn
import Derived.Laws.OwnMore
import Derived.Deep.OwnRows
import Derived.Tactics
import Derived.Lib.ConvBytes
import Derived.Laws.Slices
import Derived.WalkKit
import Derived.KernelRfl
import Derived.RowKit3
import Derived.Deep.LoopGhost
import Derived.Deep.QuietTactic
import Derived.BigQuiet
import Derived.WideLaws
import Derived.Deep.DeepCutAuto
import Derived.Deep.CutBlock
import Derived.Deep.RegionHeld3
import Derived.Laws.Rows
import Derived.Lib.AppendStr
import Derived.ArgAppend
import Derived.Laws.IdiomCopy
import Derived.OrdersHeld
import Derived.Deep.RegionLaw
import Derived.Deep.RegionWith
import Derived.Laws.BitsLemmas
import Derived.RowKit
import Derived.Test.YtfoicjlkbkjfjaaWWords
import Derived.Test.YtfoicjlkbkjfjaaWLast
import Derived.Test.YtfoicjlkbkjfjaaWQPut
import Derived.Test.YtfoicjlkbkjfjaaWMore
import Derived.Test.YtfoicjlkbkjfjaaWEqStruct
namespace Go.Proofs.Ytfoicjlkbkjfjaa.Hand
open Go.RowKit Go.Proofs.YtfoicjlkbkjfjaaW.PrintWords Go.Proofs.YtfoicjlkbkjfjaaW.PrintLast Go.Proofs.YtfoicjlkbkjfjaaW.PrintMore

/-- What a call leaves: all but the blocks of S, and what is new. -/
structure Fr (w w' : World) (S : Nat → Prop) : Prop where
  os : w'.os = w.os
  tape : w'.tape = w.tape
  output : w'.output = w.output
  size : w.heap.size ≤ w'.heap.size
  block : ∀ k, k < w.heap.size → ¬ S k → w'.heap[k]? = w.heap[k]?

section
variable {w w' w1 w2 : World} {S S1 S2 : Nat → Prop}
theorem Fr.refl (w : World) (S : Nat → Prop) : Fr w w S := ⟨rfl, rfl, rfl, Nat.le_refl _, fun _ _ _ => rfl⟩
theorem Fr.mono (h : Fr w w' S1) (hs : ∀ k, k < w.heap.size → S1 k → S k) : Fr w w' S := ⟨h.os, h.tape, h.output, h.size, fun k hk hn => h.block k hk (fun h1 => hn (hs k hk h1))⟩
theorem Fr.trans (h : Fr w w1 S) (k : Fr w1 w2 S2) (hs : ∀ k, k < w.heap.size → S2 k → S k) : Fr w w2 S :=
  ⟨k.os.trans h.os, k.tape.trans h.tape, k.output.trans h.output, Nat.le_trans h.size k.size, fun i hi hn => (k.block i (Nat.lt_of_lt_of_le hi h.size) (fun h2 => hn (hs i hi h2))).trans (h.block i hi hn)⟩
theorem Fr.then_ (h : Fr w w1 S) (k : Fr w1 w2 S) : Fr w w2 S := h.trans k (fun _ _ h => h)
theorem Fr.drew (h : Fr w w1 S) : Fr w w1.drew S := ⟨h.os, h.tape, h.output, h.size, h.block⟩
theorem Fr.drewN (h : Fr w w1 S) (n : Nat) : Fr w (w1.drewN n) S := ⟨h.os, h.tape, h.output, h.size, h.block⟩
theorem Fr.of_drew (h : Fr w.drew w1 S) : Fr w w1 S := ⟨h.os, h.tape, h.output, h.size, h.block⟩
theorem Fr.of_drewN {n : Nat} (h : Fr (w.drewN n) w1 S) : Fr w w1 S := ⟨h.os, h.tape, h.output, h.size, h.block⟩
theorem Fr.of_below (h : Below w.heap.size w w1) (S : Nat → Prop) : Fr w w1 S := ⟨h.os, h.tape, h.output, h.size, fun k hk _ => h.block k hk⟩
theorem Fr.of_drawn (h : Drawn0 w w1) (S : Nat → Prop) : Fr w w1 S := by
  obtain ⟨n, rfl⟩ := h.out
  exact (Fr.refl w S).drewN n
theorem Fr.of_grown {row : Option Nat} (h : w.grownBy w1 row) : Fr w w1 (fun k => row = some k) := ⟨h.os, h.tape, h.output, h.size, fun k hk hn => h.block k hk (fun e => hn e.symm)⟩
theorem Fr.alloc (h : Fr w w1 S) (o : Obj) : Fr w (w1.alloc o) S := h.then_ (Fr.of_below (below_alloc (Below.refl _ _) o) S)
theorem Fr.setCell (h : Fr w w1 S) {p : Addr} (hp : p.block < w.heap.size → S p.block) (u : Value) : Fr w (w1.setCell p u) S :=
  h.trans (S2 := fun k => k = p.block) ⟨rfl, rfl, rfl, by simp [World.setCell], fun k _ hn => Below.heap_setCell _ _ _ _ hn⟩ (fun k hk e => by subst e; exact hp hk)
theorem Fr.set1 {g : Nat} (h : Fr w w1 (· = g)) (o : Nat) (u : Value) : Fr w (w1.setCell ⟨g, o, none⟩ u) (· = g) := h.setCell (p := ⟨g, o, none⟩) (fun _ => rfl) u
theorem Fr.below {B : Nat} (h : Fr w w1 S) (hB : ∀ k, S k → B ≤ k) (hw : B ≤ w.heap.size) : Below B w w1 :=
  ⟨h.os, h.tape, h.output, h.size, fun k hk => h.block k (by omega) (fun hs => by have := hB k hs; omega)⟩
theorem Fr.blk (h : Fr w w1 S) {g : Nat} {o : Obj} (hb : w.heap[g]? = some o) (hg : ¬ S g) : w1.heap[g]? = some o := (h.block g (blk_lt hb) hg).trans hb
theorem Fr.cell (h : Fr w w1 S) {a : Addr} {v : Value} (hc : w.cell? a = some v) (hg : ¬ S a.block) : w1.cell? a = some v := by
  have := h.block a.block (World.block_lt_of_cell? w a hc) hg
  simpa [World.cell?, this] using hc
theorem Fr.own (h : Fr w w1 S) {base : Nat} {e : TypeId} {size n : Nat} {v : Value} {xs : List Value} (ho : w.ownsRow base e size v n xs) (hg : ∀ k, v.ownBlock = some k → ¬ S k) : w1.ownsRow base e size v n xs := by
  refine own_move ho (fun k hk => h.block k ?_ (hg k hk))
  exact (ho.lt k hk).2
end
theorem bt_nat (s : ByteArray) (k : Nat) (h : k < s.size) : bt s k = (s[k].toNat : Int) := (bt_at s k h).symm
theorem toList_nil {s : ByteArray} (h : s.size = 0) : s.toList.isEmpty = true := by
  rw [ByteArray.toList_eq, List.isEmpty_iff_length_eq_zero, data_length]; exact h
theorem toList_some {s : ByteArray} (h : s.size ≠ 0) : s.toList.isEmpty = false := by
  rw [ByteArray.toList_eq]
  cases hd : s.data.toList with
  | nil => exact absurd (by rw [← data_length, hd]; rfl) h
  | cons a l => rfl
/-! '[]byte(s)': the new row's cells, that they may be written, and the string made of them behind a store. -/
theorem bytes_cell (w : World) (e : TypeId) (s : ByteArray) (i : Nat) (h : i < s.size) : (Lib.bytesWorld w e s).cell? ⟨w.heap.size, i, none⟩ = some (.int .u8 (bt s i)) := by
  rw [Lib.bytesWorld_cell w e s i h, bt_nat s i h]
  have : i < s.data.toList.length := by rw [data_length]; exact h
  simp [List.getD_eq_getElem?_getD, List.getElem?_eq_getElem this]
  rfl
theorem bytes_free (w : World) (e : TypeId) (s : ByteArray) (i : Nat) (h : i < s.size) : (Lib.bytesWorld w e s).frozen? ⟨w.heap.size, i, none⟩ = false := by
  have h2 : s.size ≤ (Lib.bytesCells w e s).size := by simp [Lib.bytesCells]
  simp [World.frozen?, Lib.bytesWorld_at_new]
  omega
theorem bytes_back {P : Program} (w : World) (src dst e : TypeId) (hs : P.underlying src = some (.slice e)) (he : P.underlying e = some (.int .u8)) (hd : P.underlying dst = some .string) (s : ByteArray) (i : Nat) (h : i < s.size) (v : Int) (cap : Nat) :
    (convert src dst (.slice (some ⟨w.heap.size, 0, none⟩) s.size cap)).run P ((Lib.bytesWorld w e s).setCell ⟨w.heap.size, i, none⟩ (.int .u8 v)) =
      .ok (.string (strOfNums ((bytesOf s).set i v))) ((Lib.bytesWorld w e s).setCell ⟨w.heap.size, i, none⟩ (.int .u8 v)) := by
  refine run_convert_bytes_arg _ src e hs he w.heap.size 0 s.size cap ((bytesOf s).set i v) (by rw [List.length_set, bytesOf_length]) (fun j hj => ?_) dst hd
  rw [Nat.zero_add]
  by_cases hij : j = i
  · subst hij
    have : (((bytesOf s).set j v).getD j 0) = v := by
      rw [List.getD_eq_getElem?_getD, List.getElem?_set_self (by rw [bytesOf_length]; exact h)]; rfl
    rw [this]
    have hc := bytes_cell w e s j h
    exact World.cell?_setCell_same _ _ _ hc
  · rw [World.cell?_setCell_other _ _ _ _ (by intro e; injection e; omega), bytes_cell w e s j hj]
    have : (((bytesOf s).set i v).getD j 0) = bt s j := by
      rw [List.getD_eq_getElem?_getD, List.getElem?_set_ne (by omega), ← List.getD_eq_getElem?_getD]
      exact rd_bytesOf s j
    rw [this]

/-! Rows of whole numbers of the call's own: 'append'. -/
/-- The slice value v is a row of the call's own (in a block from B on) with these numbers. -/
def Row (W : World) (B : Nat) (e : TypeId) (k : IntKind) (v : Value) (xs : List Int) : Prop := W.ownsRow B e 1 v xs.length (nums k xs)
section
variable {P : Program} {ops : Array Oper} {rest : List Oper} {o : Oper} {a : Act} {Q : Exit → Act → World → Prop} {K : Act → World → Prop} {W w1 : World} {B : Nat} {e : TypeId} {k : IntKind} {v : Value} {xs : List Int}
theorem Row.nil (W : World) (B : Nat) (e : TypeId) (k : IntKind) : Row W B e k (.slice none 0 0) [] := own_nil W B e 1
theorem Row.lt (h : Row W B e k v xs) : ∀ g, v.ownBlock = some g → B ≤ g ∧ g < W.heap.size := World.ownsRow.lt h
theorem Row.fr {S : Nat → Prop} (h : Row W B e k v xs) (hf : Fr W w1 S) (hg : ∀ g, v.ownBlock = some g → ¬ S g) : Row w1 B e k v xs := hf.own h hg
theorem Row.blk (h : Row W B e k v xs) : ∀ g, v.ownBlock = some g → ∃ cells, W.heap[g]? = some (.cells cells e (0, 0)) := fun g hg => own_typed h g hg
theorem Row.ne_blk (h : Row W B e k v xs) {g : Nat} {t : TypeId} {cs : Array Value} {fr : Nat × Nat} (hb : W.heap[g]? = some (.cells cs t fr)) (hne : e ≠ t) : ∀ j, v.ownBlock = some j → j ≠ g := by
  rintro j hj rfl
  obtain ⟨cells, hc⟩ := h.blk j hj
  rw [hc] at hb
  injection hb with hb
  injection hb with _ hb
  exact hne hb
theorem Row.drew (h : Row W B e k v xs) : Row W.drew B e k v xs := h
theorem Row.undrew (h : Row W.drew B e k v xs) : Row W B e k v xs := h
theorem Row.alloc (h : Row W B e k v xs) (ob : Obj) : Row (W.alloc ob) B e k v xs := World.ownsRow.alloc h ob
theorem Row.below (h : Row W B e k v xs) (hb : Below W.heap.size W w1) : Row w1 B e k v xs := pw_own_below h hb
theorem Row.reads (h : Row W B e k v xs) : ∃ A c, v = .slice A xs.length c ∧ ReadsInt W k A xs.length xs := own_reads h
theorem Row.str {P : Program} {src dst e' : TypeId} (hs : P.underlying src = some (.slice e')) (he : P.underlying e' = some (.int .u8)) (hd : P.underlying dst = some .string) (h : Row W B e .u8 v xs) :
    (convert src dst v).run P W = .ok (.string (strOfNums xs)) W := own_string hs he hd h
/-- An element of a row of the call's own: read, and written. -/
theorem Row.at_ {g n cap : Nat} (h : Row W B e k (.slice (some ⟨g, 0, none⟩) n cap) xs) (i : Nat) (hi : i < xs.length) : W.cell? ⟨g, i, none⟩ = some (.int k (xs.getD i 0)) ∧ W.frozen? ⟨g, i, none⟩ = false := by
  obtain ⟨A, c, h1, _⟩ := Row.reads h
  injection h1 with h1 h2 h3
  subst h2
  have := own_at (i := (i : Int)) h (by omega) (by omega)
  rw [Int.toNat_natCast] at this
  exact this
theorem Row.store {g n cap : Nat} (h : Row W B e k (.slice (some ⟨g, 0, none⟩) n cap) xs) (i : Nat) (x : Int) : Row (W.setCell ⟨g, i, none⟩ (.int k x)) B e k (.slice (some ⟨g, 0, none⟩) n cap) (xs.set i x) := by
  obtain ⟨A, c, h1, _⟩ := Row.reads h
  injection h1 with h1 h2 h3
  subst h2
  have := (own_store (i := (i : Int)) (x := x) h).1
  rw [Int.toNat_natCast] at this
  unfold Row
  rw [List.length_set]
  exact this
theorem Row.made (W : World) (B : Nat) (e : TypeId) (k : IntKind) (m : Nat) (hb : B ≤ W.heap.size) (hm : m ≤ 9223372036854775807) :
    Row (W.alloc (.cells (madeCells #[.int k 0] m) e)) B e k (.slice (some ⟨W.heap.size, 0, none⟩) m m) (List.replicate m 0) := by
  unfold Row
  rw [List.length_replicate]
  exact own_made W B e k m hb hm
theorem Row.empty (W : World) (B : Nat) (e : TypeId) (k : IntKind) (hb : B ≤ W.heap.size) : Row (W.alloc (.cells #[] e)) B e k (.slice (some ⟨W.heap.size, 0, none⟩) 0 0) [] :=
  World.ownsRow_made W #[] 0 hb (Nat.zero_le _) (by simp)
/-- What an append leaves. -/
structure App (W w1 : World) (B : Nat) (e : TypeId) (k : IntKind) (v v1 : Value) (xs : List Int) : Prop where
  row : Row w1 B e k v1 xs
  grown : W.grownBy w1 v.ownBlock
theorem Row.lower {B' : Nat} (h : Row W B e k v xs) (hB : B' ≤ B) : Row W B' e k v xs := own_weaken h hB
theorem Row.shape (h : Row W B e k v xs) : ∃ A n m, v = .slice A n m ∧ Aside0 (n = xs.length) := by
  obtain ⟨A, m, h1, _⟩ := h.reads
  exact ⟨A, _, m, h1, ⟨rfl⟩⟩
theorem App.blk {ys : List Int} {v1 : Value} (hap : App W w1 B e k v v1 ys) (hr : Row W B e k v xs) {g : Nat} {t : TypeId} {cs : Array Value} {fr : Nat × Nat} (hb : W.heap[g]? = some (.cells cs t fr)) (hne : e ≠ t) :
    w1.heap[g]? = some (.cells cs t fr) := blk_grown hb hap.grown (fun he => hr.ne_blk hb hne g he.symm rfl)
theorem App.blk1 {ys : List Int} {v1 : Value} {ob : Obj} (hap : App (W.alloc ob) w1 B e k v v1 ys) (hr : Row W B e k v xs) {g : Nat} {t : TypeId} {cs : Array Value} {fr : Nat × Nat} (hb : W.heap[g]? = some (.cells cs t fr)) (hne : e ≠ t) :
    w1.heap[g]? = some (.cells cs t fr) := hap.blk (hr.alloc _) (blk_alloc hb _) hne
theorem App.below {ys : List Int} {v1 : Value} (hap : App W w1 B e k v v1 ys) (hr : Row W B e k v xs) (hB : B ≤ W.heap.size) : Below B W w1 := (Below.refl B W).grown hap.grown hB (fun g hg => (hr.lt g hg).1)
theorem App.below1 {ys : List Int} {v1 : Value} {ob : Obj} (hap : App (W.alloc ob) w1 B e k v v1 ys) (hr : Row W B e k v xs) (hB : B ≤ W.heap.size) : Below B W w1 := ((Below.refl B W).alloc hB ob).trans (hap.below (hr.alloc ob) (by simp; omega))
theorem app_wp (B : Nat) (hgd : o.guard = none) (s x : Operand) (t e : TypeId) (k : IntKind) (bytes : Nat)
    (ho : o.op = .call { callee := .builtin .append, args := #[s, x], argTypes := #[t, t] })
    (ht : P.underlying t = some (.slice e)) (hinfo : (P.info? e).map (fun i => (i.zero, i.size, i.bytes)) = some (some (.int k 0), 1, bytes))
    (v : Value) (xs ys : List Int) (hs : a.eval s = v) (ad : Addr) (m c : Nat) (hx : a.eval x = .slice (some ad) m c) (hm : ys.length = m)
    (hnews : ∀ j u, (nums k ys)[j]? = some u → W.cell? (ad.add j) = some u) (HO : Row W B e k v xs) (hB : B ≤ W.heap.size) (h63 : xs.length + m ≤ maxLen) (hl : (xs.length + m) * bytes ≤ 140737488355328)
    (h : ∀ v1 w1, App W w1 B e k v v1 (xs ++ ys) → wpList P ops Q rest (a.put o.dst v1) w1) :
    wpList P ops Q (o :: rest) a W := by
  obtain ⟨i0, hi, hzz⟩ := Option.map_eq_some_iff.1 hinfo
  simp only [Prod.mk.injEq] at hzz
  obtain ⟨hz0, hz1, hz2⟩ := hzz
  refine wpList_append_own_at W hgd s x t ho B e i0 (.int k 0) 1 bytes ht hi hz0 hz1 hz2 rfl (by omega) v xs.length (nums k xs) hs HO ad m c (nums k ys) hx (by rw [nums_length, hm]; omega)
    hnews (fun u hu => by simp [nums] at hu; obtain ⟨z, _, rfl⟩ := hu; rfl) h63 hl hB ?_
  intro v1 w1 hown hg _ _
  refine h v1 w1 ⟨?_, hg⟩
  unfold Row
  rw [List.length_append, hm, nums_append]
  exact hown
theorem app_step {E : Prop} (B : Nat) (hgd : o.guard = none) (s x : Operand) (t e : TypeId) (k : IntKind) (bytes : Nat)
    (ho : o.op = .call { callee := .builtin .append, args := #[s, x], argTypes := #[t, t] })
    (ht : P.underlying t = some (.slice e)) (hinfo : (P.info? e).map (fun i => (i.zero, i.size, i.bytes)) = some (some (.int k 0), 1, bytes))
    (v : Value) (xs ys : List Int) (hs : a.eval s = v) (ad : Addr) (m c : Nat) (hx : a.eval x = .slice (some ad) m c) (hm : ys.length = m)
    (hnews : ∀ j u, (nums k ys)[j]? = some u → W.cell? (ad.add j) = some u) (HO : Row W B e k v xs) (hB : B ≤ W.heap.size) (h63 : xs.length + m ≤ maxLen) (hl : (xs.length + m) * bytes ≤ 140737488355328)
    (h : ∀ v1 w1, App W w1 B e k v v1 (xs ++ ys) → K (a.put o.dst v1) w1) :
    if Region.wanted o (yielded ops a.tmps) = true then Oper.wp P o a W K Q else E := by
  have hw : Region.wanted o (yielded ops a.tmps) = true := by simp [Region.wanted, hgd]
  obtain ⟨i0, hi, hzz⟩ := Option.map_eq_some_iff.1 hinfo
  simp only [Prod.mk.injEq] at hzz
  obtain ⟨hz0, hz1, hz2⟩ := hzz
  rw [if_pos hw]
  obtain ⟨v1, w1, hr, hown, hg, _, _⟩ := run_append_own_at (P := P) W B t o.type e i0 (.int k 0) 1 bytes ht hi hz0 hz1 hz2 rfl (by omega) v xs.length (nums k xs) HO ad m c (nums k ys) (by rw [nums_length, hm]; omega)
    hnews (fun u hu => by simp [nums] at hu; obtain ⟨z, _, rfl⟩ := hu; rfl) h63 hl hB
  unfold Oper.wp execOp
  simp only [ho, resolve, invoke, builtin, Sem.run_bind, Sem.run_pure, Result.andThen_ok, List.map_toArray, List.map_cons, List.map_nil, hs, hx, hr]
  refine h v1 w1 ⟨?_, hg⟩
  unfold Row
  rw [List.length_append, hm, nums_append]
  exact hown
/-- The cells of a row that is read. -/
theorem news_reads {k : IntKind} {A : Option Addr} {n : Nat} {ys : List Int} (h : ReadsInt W k A n ys) (hn : 0 < n) : ∃ ad, A = some ad ∧ ∀ j u, (nums k ys)[j]? = some u → W.cell? (ad.add j) = some u := by
  obtain ⟨h1, h2, h3⟩ := h
  obtain ⟨ad, rfl, hc⟩ := h3 hn
  refine ⟨ad, rfl, fun j u hu => ?_⟩
  have hj : j < ys.length := by
    rcases Nat.lt_or_ge j ys.length with h | h
    · exact h
    · rw [List.getElem?_eq_none (by rw [nums_length]; exact h)] at hu; cases hu
  rw [hc j (by omega)]
  simp only [nums, List.getElem?_map, List.getElem?_eq_getElem hj, Option.map_some, Option.some.injEq] at hu
  rw [← hu, List.getD_eq_getElem?_getD, List.getElem?_eq_getElem hj]
  rfl
/-- The cells of a literal that was just built. -/
theorem news_lit (W : World) (k : IntKind) (ys : List Int) (cs : Array Value) (e : TypeId) (hcs : cs = (nums k ys).toArray) : ∀ j u, (nums k ys)[j]? = some u → (W.alloc (.cells cs e)).cell? ((⟨W.heap.size, 0, none⟩ : Addr).add j) = some u := by
  subst hcs
  simpa using World.news_of_block (cs := (nums k ys).toArray) (t := e) (fr := (0, 0)) (heap_alloc_new W (.cells (nums k ys).toArray e))
end
section
variable {P : Program} {ops : Array Oper} {rest : List Oper} {o : Oper} {a : Act} {Q : Exit → Act → World → Prop} {K : Act → World → Prop} {W w1 : World} {B : Nat} {e : TypeId} {v : Value} {xs : List Int}
theorem str_row {W : World} {B : Nat} {e : TypeId} {v : Value} {xs : List Int} {y : ByteArray} (h : W.ownsRow B e 1 v (xs.length + y.size) (nums .u8 xs ++ Lib.strCells y)) : Row W B e .u8 v (xs ++ bytesOf y) := by
  unfold Row
  rw [List.length_append, bytesOf_length, nums_append]
  have hc : nums .u8 (bytesOf y) = Lib.strCells y := by simp [nums, bytesOf, Lib.strCells]
  rw [hc]
  exact h
theorem appstr_wp (B : Nat) (hgd : o.guard = none) (s x : Operand) (t u e : TypeId)
    (ho : o.op = .call { callee := .builtin .append, args := #[s, x], argTypes := #[t, u] })
    (ht : P.underlying t = some (.slice e)) (hu : P.underlying u = some .string) (hinfo : (P.info? e).map (fun i => (i.zero, i.size, i.bytes)) = some (some (.int .u8 0), 1, 1))
    (v : Value) (xs : List Int) (y : ByteArray) (hs : a.eval s = v) (hx : a.eval x = .string y)
    (HO : Row W B e .u8 v xs) (hB : B ≤ W.heap.size) (hl : xs.length + y.size ≤ 140737488355328)
    (h : ∀ v1 w1, App W w1 B e .u8 v v1 (xs ++ bytesOf y) → wpList P ops Q rest (a.put o.dst v1) w1) :
    wpList P ops Q (o :: rest) a W := by
  obtain ⟨i0, hi, hzz⟩ := Option.map_eq_some_iff.1 hinfo
  simp only [Prod.mk.injEq] at hzz
  obtain ⟨hz0, hz1, hz2⟩ := hzz
  refine Lib.wpList_append_own_string W hgd s x t u ho B e i0 ht hu hi hz0 hz1 hz2 v xs.length (nums .u8 xs) hs HO y hx (by simp only [maxLen]; omega) hl hB ?_
  intro v1 w1 hown hg _
  exact h v1 w1 ⟨str_row hown, hg⟩
theorem appstr_step {E : Prop} (B : Nat) (hgd : o.guard = none) (s x : Operand) (t u e : TypeId)
    (ho : o.op = .call { callee := .builtin .append, args := #[s, x], argTypes := #[t, u] })
    (ht : P.underlying t = some (.slice e)) (hu : P.underlying u = some .string) (hinfo : (P.info? e).map (fun i => (i.zero, i.size, i.bytes)) = some (some (.int .u8 0), 1, 1))
    (v : Value) (xs : List Int) (y : ByteArray) (hs : a.eval s = v) (hx : a.eval x = .string y)
    (HO : Row W B e .u8 v xs) (hB : B ≤ W.heap.size) (hl : xs.length + y.size ≤ 140737488355328)
    (h : ∀ v1 w1, App W w1 B e .u8 v v1 (xs ++ bytesOf y) → K (a.put o.dst v1) w1) :
    if Region.wanted o (yielded ops a.tmps) = true then Oper.wp P o a W K Q else E := by
  have hw : Region.wanted o (yielded ops a.tmps) = true := by simp [Region.wanted, hgd]
  obtain ⟨i0, hi, hzz⟩ := Option.map_eq_some_iff.1 hinfo
  simp only [Prod.mk.injEq] at hzz
  obtain ⟨hz0, hz1, hz2⟩ := hzz
  rw [if_pos hw]
  obtain ⟨v1, w1, hr, hown, hg, _⟩ := Lib.run_append_own_string (P := P) W B t u o.type e i0 ht hu hi hz0 hz1 hz2 v xs.length (nums .u8 xs) HO y (by simp only [maxLen]; omega) hl hB
  unfold Oper.wp execOp
  simp only [ho, resolve, invoke, builtin, Sem.run_bind, Sem.run_pure, Result.andThen_ok, List.map_toArray, List.map_cons, List.map_nil, hs, hx, hr]
  exact h v1 w1 ⟨str_row hown, hg⟩
end

/-- A captured variable is a block of one cell: a store into it. -/
theorem Row.set {W : World} {B : Nat} {e : TypeId} {k : IntKind} {v : Value} {xs : List Int} (h : Row W B e k v xs) {g : Nat} {t : TypeId} {cs : Array Value} {fr : Nat × Nat} (hb : W.heap[g]? = some (.cells cs t fr)) (hne : e ≠ t) (j : Nat) (u : Value) :
    Row (W.setCell ⟨g, j, none⟩ u) B e k v xs :=
  h.fr (S := fun i => i = g) ((Fr.refl W _).set1 j u) (fun i hi => h.ne_blk hb hne i hi)
theorem blk_put1 {W : World} {g : Nat} {t : TypeId} {v : Value} (h : W.heap[g]? = some (.cells #[v] t (0, 0))) (u : Value) : (W.setCell ⟨g, 0, none⟩ u).heap[g]? = some (.cells #[u] t (0, 0)) := blk_set h 0 u
theorem blk_else {W : World} {g g' : Nat} {t t' : TypeId} {cs cs' : Array Value} {fr fr' : Nat × Nat} (h : W.heap[g]? = some (.cells cs t fr)) (h' : W.heap[g']? = some (.cells cs' t' fr')) (hne : t ≠ t') (j : Nat) (u : Value) : (W.setCell ⟨g', j, none⟩ u).heap[g]? = some (.cells cs t fr) := by
  refine (Below.heap_setCell W ⟨g', j, none⟩ u g ?_).trans h
  rintro rfl
  rw [h] at h'
  injection h' with h'
  injection h' with _ h'
  exact hne h'

/-- A cut of a string, its bounds spelled as the walk has them: laid ahead. -/
theorem slice_str {P : Program} (t : TypeId) (s : ByteArray) (i j : Nat) (a b : Int) (ht : P.underlying t = some .string) (ha : a = i) (hb : b = j) (h1 : i ≤ j) (h2 : j ≤ s.size) :
    ∀ W : World, (Instr.slice t (.string s) (some (.int .i64 a)) (some (.int .i64 b)) none).run P W = .ok (.string (s.extract i j)) W := by
  intro W
  subst ha hb
  have := run_slice_string (P := P) W t s .i64 .i64 (i : Int) (j : Int) ht (by omega) (by omega) (by omega)
  rwa [Int.toNat_natCast, Int.toNat_natCast] at this

theorem infoU8 : (Try.prog.info? 5).map (fun i => (i.zero, i.size, i.bytes)) = some (some (.int .u8 0), 1, 1) := by kernel_rfl
end Go.Proofs.Ytfoicjlkbkjfjaa.Hand
