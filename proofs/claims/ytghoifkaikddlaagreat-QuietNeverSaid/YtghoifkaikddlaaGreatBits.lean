/- What the hand-made contracts of this seat import: the seat's program, the library's laws and the printed words. Plain facts on wrapped numbers, rounds and bytes, for this seat's pure texts. Bits of bytes and of numbers: plain facts. -/
import Derived.Test.YtghoifkaikddlaaGreatProg
import Derived.Below
import Derived.Deep.Draws
import Derived.Deep.AppendLies
import Derived.Maps.AppendAt
import Derived.OwnWalk
import Derived.Laws.BytesArg
import Derived.Laws.MakeOwn
import Derived.Laws.OwnMore
import Derived.Deep.OwnRows
import Derived.Tactics
import Derived.Lib.ConvBytes
import Derived.Laws.Slices
import Derived.WalkKit
import Derived.KernelRfl
import Derived.RowKit3
import Derived.Deep.LoopGhost
import Derived.Deep.QuietTactic
import Derived.BigQuiet
import Derived.WideLaws
import Derived.Deep.DeepCutAuto
import Derived.Deep.CutBlock
import Derived.Deep.RegionHeld3
import Derived.Laws.Rows
import Derived.Lib.AppendStr
import Derived.ArgAppend
import Derived.Laws.IdiomCopy
import Derived.OrdersHeld
import Derived.Deep.RegionLaw
import Derived.Deep.RegionWith
import Derived.Laws.BitsLemmas
import Derived.RowKit
import Derived.Test.YtghoifkaikddlaaGreatWWords
import Derived.Test.YtghoifkaikddlaaGreatWLast
import Derived.Test.YtghoifkaikddlaaGreatWQPut
import Derived.Test.YtghoifkaikddlaaGreatWMore
import Derived.Test.YtghoifkaikddlaaGreatWEqStruct
namespace Go.Proofs.YtghoifkaikddlaaGreat.Hand
open Go.RowKit Go.Proofs.YtghoifkaikddlaaGreatW.PrintWords Go.Proofs.YtghoifkaikddlaaGreatW.PrintLast Go.Proofs.YtghoifkaikddlaaGreatW.PrintMore
structure Fr (w w' : World) (S : Nat → Prop) : Prop where
 os : w'.os = w.os
 tape : w'.tape = w.tape
 output : w'.output = w.output
 size : w.heap.size ≤ w'.heap.size
 block : ∀ k, k < w.heap.size → ¬ S k → w'.heap[k]? = w.heap[k]?
section
variable {w w' w1 w2 : World} {S S1 S2 : Nat → Prop}
theorem Fr.refl (w : World) (S : Nat → Prop) : Fr w w S := ⟨rfl, rfl, rfl, Nat.le_refl _, fun _ _ _ => rfl⟩
theorem Fr.mono (h : Fr w w' S1) (hs : ∀ k, k < w.heap.size → S1 k → S k) : Fr w w' S := ⟨h.os, h.tape, h.output, h.size, fun k hk hn => h.block k hk (fun h1 => hn (hs k hk h1))⟩
theorem Fr.trans (h : Fr w w1 S) (k : Fr w1 w2 S2) (hs : ∀ k, k < w.heap.size → S2 k → S k) : Fr w w2 S :=
 ⟨k.os.trans h.os, k.tape.trans h.tape, k.output.trans h.output, Nat.le_trans h.size k.size, fun i hi hn => (k.block i (Nat.lt_of_lt_of_le hi h.size) (fun h2 => hn (hs i hi h2))).trans (h.block i hi hn)⟩
theorem Fr.then_ (h : Fr w w1 S) (k : Fr w1 w2 S) : Fr w w2 S := h.trans k (fun _ _ h => h)
theorem Fr.drew (h : Fr w w1 S) : Fr w w1.drew S := ⟨h.os, h.tape, h.output, h.size, h.block⟩
theorem Fr.drewN (h : Fr w w1 S) (n : Nat) : Fr w (w1.drewN n) S := ⟨h.os, h.tape, h.output, h.size, h.block⟩
theorem Fr.of_drew (h : Fr w.drew w1 S) : Fr w w1 S := ⟨h.os, h.tape, h.output, h.size, h.block⟩
theorem Fr.of_drewN {n : Nat} (h : Fr (w.drewN n) w1 S) : Fr w w1 S := ⟨h.os, h.tape, h.output, h.size, h.block⟩
theorem Fr.of_below (h : Below w.heap.size w w1) (S : Nat → Prop) : Fr w w1 S := ⟨h.os, h.tape, h.output, h.size, fun k hk _ => h.block k hk⟩
theorem Fr.of_drawn (h : Drawn0 w w1) (S : Nat → Prop) : Fr w w1 S := by
 obtain ⟨n, rfl⟩ := h.out
 exact (Fr.refl w S).drewN n
theorem Fr.of_grown {row : Option Nat} (h : w.grownBy w1 row) : Fr w w1 (fun k => row = some k) := ⟨h.os, h.tape, h.output, h.size, fun k hk hn => h.block k hk (fun e => hn e.symm)⟩
theorem Fr.alloc (h : Fr w w1 S) (o : Obj) : Fr w (w1.alloc o) S := h.then_ (Fr.of_below (below_alloc (Below.refl _ _) o) S)
theorem Fr.setCell (h : Fr w w1 S) {p : Addr} (hp : p.block < w.heap.size → S p.block) (u : Value) : Fr w (w1.setCell p u) S :=
 h.trans (S2 := fun k => k = p.block) ⟨rfl, rfl, rfl, by simp [World.setCell], fun k _ hn => Below.heap_setCell _ _ _ _ hn⟩ (fun k hk e => by subst e; exact hp hk)
theorem Fr.set1 {g : Nat} (h : Fr w w1 (· = g)) (o : Nat) (u : Value) : Fr w (w1.setCell ⟨g, o, none⟩ u) (· = g) := h.setCell (p := ⟨g, o, none⟩) (fun _ => rfl) u
theorem Fr.below {B : Nat} (h : Fr w w1 S) (hB : ∀ k, S k → B ≤ k) (hw : B ≤ w.heap.size) : Below B w w1 :=
 ⟨h.os, h.tape, h.output, h.size, fun k hk => h.block k (by omega) (fun hs => by have := hB k hs; omega)⟩
theorem Fr.blk (h : Fr w w1 S) {g : Nat} {o : Obj} (hb : w.heap[g]? = some o) (hg : ¬ S g) : w1.heap[g]? = some o := (h.block g (blk_lt hb) hg).trans hb
theorem Fr.cell (h : Fr w w1 S) {a : Addr} {v : Value} (hc : w.cell? a = some v) (hg : ¬ S a.block) : w1.cell? a = some v := by
 have := h.block a.block (World.block_lt_of_cell? w a hc) hg
 simpa [World.cell?, this] using hc
theorem Fr.own (h : Fr w w1 S) {base : Nat} {e : TypeId} {size n : Nat} {v : Value} {xs : List Value} (ho : w.ownsRow base e size v n xs) (hg : ∀ k, v.ownBlock = some k → ¬ S k) : w1.ownsRow base e size v n xs := by
 refine own_move ho (fun k hk => h.block k ?_ (hg k hk))
 exact (ho.lt k hk).2
end
theorem bt_nat (s : ByteArray) (k : Nat) (h : k < s.size) : bt s k = (s[k].toNat : Int) := (bt_at s k h).symm
theorem toList_nil {s : ByteArray} (h : s.size = 0) : s.toList.isEmpty = true := by
 rw [ByteArray.toList_eq, List.isEmpty_iff_length_eq_zero, data_length]; exact h
theorem toList_some {s : ByteArray} (h : s.size ≠ 0) : s.toList.isEmpty = false := by
 rw [ByteArray.toList_eq]
 cases hd : s.data.toList with
 | nil => exact absurd (by rw [← data_length, hd]; rfl) h
 | cons a l => rfl
def Row (W : World) (B : Nat) (e : TypeId) (k : IntKind) (v : Value) (xs : List Int) : Prop := W.ownsRow B e 1 v xs.length (nums k xs)
section
variable {P : Program} {ops : Array Oper} {rest : List Oper} {o : Oper} {a : Act} {Q : Exit → Act → World → Prop} {K : Act → World → Prop} {W w1 : World} {B : Nat} {e : TypeId} {k : IntKind} {v : Value} {xs : List Int}
theorem Row.nil (W : World) (B : Nat) (e : TypeId) (k : IntKind) : Row W B e k (.slice none 0 0) [] := own_nil W B e 1
theorem Row.lt (h : Row W B e k v xs) : ∀ g, v.ownBlock = some g → B ≤ g ∧ g < W.heap.size := World.ownsRow.lt h
theorem Row.fr {S : Nat → Prop} (h : Row W B e k v xs) (hf : Fr W w1 S) (hg : ∀ g, v.ownBlock = some g → ¬ S g) : Row w1 B e k v xs := hf.own h hg
theorem Row.blk (h : Row W B e k v xs) : ∀ g, v.ownBlock = some g → ∃ cells, W.heap[g]? = some (.cells cells e (0, 0)) := fun g hg => own_typed h g hg
theorem Row.ne_blk (h : Row W B e k v xs) {g : Nat} {t : TypeId} {cs : Array Value} {fr : Nat × Nat} (hb : W.heap[g]? = some (.cells cs t fr)) (hne : e ≠ t) : ∀ j, v.ownBlock = some j → j ≠ g := by
 rintro j hj rfl
 obtain ⟨cells, hc⟩ := h.blk j hj
 rw [hc] at hb
 injection hb with hb
 injection hb with _ hb
 exact hne hb
theorem Row.drew (h : Row W B e k v xs) : Row W.drew B e k v xs := h
theorem Row.undrew (h : Row W.drew B e k v xs) : Row W B e k v xs := h
theorem Row.alloc (h : Row W B e k v xs) (ob : Obj) : Row (W.alloc ob) B e k v xs := World.ownsRow.alloc h ob
theorem Row.below (h : Row W B e k v xs) (hb : Below W.heap.size W w1) : Row w1 B e k v xs := pw_own_below h hb
theorem Row.reads (h : Row W B e k v xs) : ∃ A c, v = .slice A xs.length c ∧ ReadsInt W k A xs.length xs := own_reads h
theorem Row.str {P : Program} {src dst e' : TypeId} (hs : P.underlying src = some (.slice e')) (he : P.underlying e' = some (.int .u8)) (hd : P.underlying dst = some .string) (h : Row W B e .u8 v xs) :
  (convert src dst v).run P W = .ok (.string (strOfNums xs)) W := own_string hs he hd h
theorem Row.at_ {g n cap : Nat} (h : Row W B e k (.slice (some ⟨g, 0, none⟩) n cap) xs) (i : Nat) (hi : i < xs.length) : W.cell? ⟨g, i, none⟩ = some (.int k (xs.getD i 0)) ∧ W.frozen? ⟨g, i, none⟩ = false := by
 obtain ⟨A, c, h1, _⟩ := Row.reads h
 injection h1 with h1 h2 h3
 subst h2
 have := own_at (i := (i : Int)) h (by omega) (by omega)
 rw [Int.toNat_natCast] at this
 exact this
theorem Row.store {g n cap : Nat} (h : Row W B e k (.slice (some ⟨g, 0, none⟩) n cap) xs) (i : Nat) (x : Int) : Row (W.setCell ⟨g, i, none⟩ (.int k x)) B e k (.slice (some ⟨g, 0, none⟩) n cap) (xs.set i x) := by
 obtain ⟨A, c, h1, _⟩ := Row.reads h
 injection h1 with h1 h2 h3
 subst h2
 have := (own_store (i := (i : Int)) (x := x) h).1
 rw [Int.toNat_natCast] at this
 unfold Row
 rw [List.length_set]
 exact this
theorem Row.made (W : World) (B : Nat) (e : TypeId) (k : IntKind) (m : Nat) (hb : B ≤ W.heap.size) (hm : m ≤ 9223372036854775807) :
  Row (W.alloc (.cells (madeCells #[.int k 0] m) e)) B e k (.slice (some ⟨W.heap.size, 0, none⟩) m m) (List.replicate m 0) := by
 unfold Row
 rw [List.length_replicate]
 exact own_made W B e k m hb hm
theorem Row.empty (W : World) (B : Nat) (e : TypeId) (k : IntKind) (hb : B ≤ W.heap.size) : Row (W.alloc (.cells #[] e)) B e k (.slice (some ⟨W.heap.size, 0, none⟩) 0 0) [] :=
 World.ownsRow_made W #[] 0 hb (Nat.zero_le _) (by simp)
structure App (W w1 : World) (B : Nat) (e : TypeId) (k : IntKind) (v v1 : Value) (xs : List Int) : Prop where
 row : Row w1 B e k v1 xs
 grown : W.grownBy w1 v.ownBlock
theorem Row.lower {B' : Nat} (h : Row W B e k v xs) (hB : B' ≤ B) : Row W B' e k v xs := own_weaken h hB
theorem Row.shape (h : Row W B e k v xs) : ∃ A n m, v = .slice A n m ∧ Aside0 (n = xs.length) := by
 obtain ⟨A, m, h1, _⟩ := h.reads
 exact ⟨A, _, m, h1, ⟨rfl⟩⟩
theorem App.blk {ys : List Int} {v1 : Value} (hap : App W w1 B e k v v1 ys) (hr : Row W B e k v xs) {g : Nat} {t : TypeId} {cs : Array Value} {fr : Nat × Nat} (hb : W.heap[g]? = some (.cells cs t fr)) (hne : e ≠ t) :
  w1.heap[g]? = some (.cells cs t fr) := blk_grown hb hap.grown (fun he => hr.ne_blk hb hne g he.symm rfl)
theorem App.blk1 {ys : List Int} {v1 : Value} {ob : Obj} (hap : App (W.alloc ob) w1 B e k v v1 ys) (hr : Row W B e k v xs) {g : Nat} {t : TypeId} {cs : Array Value} {fr : Nat × Nat} (hb : W.heap[g]? = some (.cells cs t fr)) (hne : e ≠ t) :
  w1.heap[g]? = some (.cells cs t fr) := hap.blk (hr.alloc _) (blk_alloc hb _) hne
theorem App.below {ys : List Int} {v1 : Value} (hap : App W w1 B e k v v1 ys) (hr : Row W B e k v xs) (hB : B ≤ W.heap.size) : Below B W w1 := (Below.refl B W).grown hap.grown hB (fun g hg => (hr.lt g hg).1)
theorem App.below1 {ys : List Int} {v1 : Value} {ob : Obj} (hap : App (W.alloc ob) w1 B e k v v1 ys) (hr : Row W B e k v xs) (hB : B ≤ W.heap.size) : Below B W w1 := ((Below.refl B W).alloc hB ob).trans (hap.below (hr.alloc ob) (by simp; omega))
theorem app_wp (B : Nat) (hgd : o.guard = none) (s x : Operand) (t e : TypeId) (k : IntKind) (bytes : Nat)
  (ho : o.op = .call { callee := .builtin .append, args := #[s, x], argTypes := #[t, t] })
  (ht : P.underlying t = some (.slice e)) (hinfo : (P.info? e).map (fun i => (i.zero, i.size, i.bytes)) = some (some (.int k 0), 1, bytes))
  (v : Value) (xs ys : List Int) (hs : a.eval s = v) (ad : Addr) (m c : Nat) (hx : a.eval x = .slice (some ad) m c) (hm : ys.length = m)
  (hnews : ∀ j u, (nums k ys)[j]? = some u → W.cell? (ad.add j) = some u) (HO : Row W B e k v xs) (hB : B ≤ W.heap.size) (h63 : xs.length + m ≤ maxLen) (hl : (xs.length + m) * bytes ≤ 140737488355328)
  (h : ∀ v1 w1, App W w1 B e k v v1 (xs ++ ys) → wpList P ops Q rest (a.put o.dst v1) w1) :
  wpList P ops Q (o :: rest) a W := by
 obtain ⟨i0, hi, hzz⟩ := Option.map_eq_some_iff.1 hinfo
 simp only [Prod.mk.injEq] at hzz
 obtain ⟨hz0, hz1, hz2⟩ := hzz
 refine wpList_append_own_at W hgd s x t ho B e i0 (.int k 0) 1 bytes ht hi hz0 hz1 hz2 rfl (by omega) v xs.length (nums k xs) hs HO ad m c (nums k ys) hx (by rw [nums_length, hm]; omega)
  hnews (fun u hu => by simp [nums] at hu; obtain ⟨z, _, rfl⟩ := hu; rfl) h63 hl hB ?_
 intro v1 w1 hown hg _ _
 refine h v1 w1 ⟨?_, hg⟩
 unfold Row
 rw [List.length_append, hm, nums_append]
 exact hown
theorem app_step {E : Prop} (B : Nat) (hgd : o.guard = none) (s x : Operand) (t e : TypeId) (k : IntKind) (bytes : Nat)
  (ho : o.op = .call { callee := .builtin .append, args := #[s, x], argTypes := #[t, t] })
  (ht : P.underlying t = some (.slice e)) (hinfo : (P.info? e).map (fun i => (i.zero, i.size, i.bytes)) = some (some (.int k 0), 1, bytes))
  (v : Value) (xs ys : List Int) (hs : a.eval s = v) (ad : Addr) (m c : Nat) (hx : a.eval x = .slice (some ad) m c) (hm : ys.length = m)
  (hnews : ∀ j u, (nums k ys)[j]? = some u → W.cell? (ad.add j) = some u) (HO : Row W B e k v xs) (hB : B ≤ W.heap.size) (h63 : xs.length + m ≤ maxLen) (hl : (xs.length + m) * bytes ≤ 140737488355328)
  (h : ∀ v1 w1, App W w1 B e k v v1 (xs ++ ys) → K (a.put o.dst v1) w1) :
  if Region.wanted o (yielded ops a.tmps) = true then Oper.wp P o a W K Q else E := by
 have hw : Region.wanted o (yielded ops a.tmps) = true := by simp [Region.wanted, hgd]
 obtain ⟨i0, hi, hzz⟩ := Option.map_eq_some_iff.1 hinfo
 simp only [Prod.mk.injEq] at hzz
 obtain ⟨hz0, hz1, hz2⟩ := hzz
 rw [if_pos hw]
 obtain ⟨v1, w1, hr, hown, hg, _, _⟩ := run_append_own_at (P := P) W B t o.type e i0 (.int k 0) 1 bytes ht hi hz0 hz1 hz2 rfl (by omega) v xs.length (nums k xs) HO ad m c (nums k ys) (by rw [nums_length, hm]; omega)
  hnews (fun u hu => by simp [nums] at hu; obtain ⟨z, _, rfl⟩ := hu; rfl) h63 hl hB
 unfold Oper.wp execOp
 simp only [ho, resolve, invoke, builtin, Sem.run_bind, Sem.run_pure, Result.andThen_ok, List.map_toArray, List.map_cons, List.map_nil, hs, hx, hr]
 refine h v1 w1 ⟨?_, hg⟩
 unfold Row
 rw [List.length_append, hm, nums_append]
 exact hown
theorem news_reads {k : IntKind} {A : Option Addr} {n : Nat} {ys : List Int} (h : ReadsInt W k A n ys) (hn : 0 < n) : ∃ ad, A = some ad ∧ ∀ j u, (nums k ys)[j]? = some u → W.cell? (ad.add j) = some u := by
 obtain ⟨h1, h2, h3⟩ := h
 obtain ⟨ad, rfl, hc⟩ := h3 hn
 refine ⟨ad, rfl, fun j u hu => ?_⟩
 have hj : j < ys.length := by
  rcases Nat.lt_or_ge j ys.length with h | h
  ·exact h
  ·rw [List.getElem?_eq_none (by rw [nums_length]; exact h)] at hu; cases hu
 rw [hc j (by omega)]
 simp only [nums, List.getElem?_map, List.getElem?_eq_getElem hj, Option.map_some, Option.some.injEq] at hu
 rw [← hu, List.getD_eq_getElem?_getD, List.getElem?_eq_getElem hj]
 rfl
theorem news_lit (W : World) (k : IntKind) (ys : List Int) (cs : Array Value) (e : TypeId) (hcs : cs = (nums k ys).toArray) : ∀ j u, (nums k ys)[j]? = some u → (W.alloc (.cells cs e)).cell? ((⟨W.heap.size, 0, none⟩ : Addr).add j) = some u := by
 subst hcs
 simpa using World.news_of_block (cs := (nums k ys).toArray) (t := e) (fr := (0, 0)) (heap_alloc_new W (.cells (nums k ys).toArray e))
end
section
variable {P : Program} {ops : Array Oper} {rest : List Oper} {o : Oper} {a : Act} {Q : Exit → Act → World → Prop} {K : Act → World → Prop} {W w1 : World} {B : Nat} {e : TypeId} {v : Value} {xs : List Int}
theorem str_row {W : World} {B : Nat} {e : TypeId} {v : Value} {xs : List Int} {y : ByteArray} (h : W.ownsRow B e 1 v (xs.length + y.size) (nums .u8 xs ++ Lib.strCells y)) : Row W B e .u8 v (xs ++ bytesOf y) := by
 unfold Row
 rw [List.length_append, bytesOf_length, nums_append]
 have hc : nums .u8 (bytesOf y) = Lib.strCells y := by simp [nums, bytesOf, Lib.strCells]
 rw [hc]
 exact h
theorem appstr_step {E : Prop} (B : Nat) (hgd : o.guard = none) (s x : Operand) (t u e : TypeId)
  (ho : o.op = .call { callee := .builtin .append, args := #[s, x], argTypes := #[t, u] })
  (ht : P.underlying t = some (.slice e)) (hu : P.underlying u = some .string) (hinfo : (P.info? e).map (fun i => (i.zero, i.size, i.bytes)) = some (some (.int .u8 0), 1, 1))
  (v : Value) (xs : List Int) (y : ByteArray) (hs : a.eval s = v) (hx : a.eval x = .string y)
  (HO : Row W B e .u8 v xs) (hB : B ≤ W.heap.size) (hl : xs.length + y.size ≤ 140737488355328)
  (h : ∀ v1 w1, App W w1 B e .u8 v v1 (xs ++ bytesOf y) → K (a.put o.dst v1) w1) :
  if Region.wanted o (yielded ops a.tmps) = true then Oper.wp P o a W K Q else E := by
 have hw : Region.wanted o (yielded ops a.tmps) = true := by simp [Region.wanted, hgd]
 obtain ⟨i0, hi, hzz⟩ := Option.map_eq_some_iff.1 hinfo
 simp only [Prod.mk.injEq] at hzz
 obtain ⟨hz0, hz1, hz2⟩ := hzz
 rw [if_pos hw]
 obtain ⟨v1, w1, hr, hown, hg, _⟩ := Lib.run_append_own_string (P := P) W B t u o.type e i0 ht hu hi hz0 hz1 hz2 v xs.length (nums .u8 xs) HO y (by simp only [maxLen]; omega) hl hB
 unfold Oper.wp execOp
 simp only [ho, resolve, invoke, builtin, Sem.run_bind, Sem.run_pure, Result.andThen_ok, List.map_toArray, List.map_cons, List.map_nil, hs, hx, hr]
 exact h v1 w1 ⟨str_row hown, hg⟩
end
theorem Row.set {W : World} {B : Nat} {e : TypeId} {k : IntKind} {v : Value} {xs : List Int} (h : Row W B e k v xs) {g : Nat} {t : TypeId} {cs : Array Value} {fr : Nat × Nat} (hb : W.heap[g]? = some (.cells cs t fr)) (hne : e ≠ t) (j : Nat) (u : Value) :
  Row (W.setCell ⟨g, j, none⟩ u) B e k v xs :=
 h.fr (S := fun i => i = g) ((Fr.refl W _).set1 j u) (fun i hi => h.ne_blk hb hne i hi)
theorem blk_put1 {W : World} {g : Nat} {t : TypeId} {v : Value} (h : W.heap[g]? = some (.cells #[v] t (0, 0))) (u : Value) : (W.setCell ⟨g, 0, none⟩ u).heap[g]? = some (.cells #[u] t (0, 0)) := blk_set h 0 u
theorem blk_else {W : World} {g g' : Nat} {t t' : TypeId} {cs cs' : Array Value} {fr fr' : Nat × Nat} (h : W.heap[g]? = some (.cells cs t fr)) (h' : W.heap[g']? = some (.cells cs' t' fr')) (hne : t ≠ t') (j : Nat) (u : Value) : (W.setCell ⟨g', j, none⟩ u).heap[g]? = some (.cells cs t fr) := by
 refine (Below.heap_setCell W ⟨g', j, none⟩ u g ?_).trans h
 rintro rfl
 rw [h] at h'
 injection h' with h'
 injection h' with _ h'
 exact hne h'
theorem slice_str {P : Program} (t : TypeId) (s : ByteArray) (i j : Nat) (a b : Int) (ht : P.underlying t = some .string) (ha : a = i) (hb : b = j) (h1 : i ≤ j) (h2 : j ≤ s.size) :
  ∀ W : World, (Instr.slice t (.string s) (some (.int .i64 a)) (some (.int .i64 b)) none).run P W = .ok (.string (s.extract i j)) W := by
 intro W
 subst ha hb
 have := run_slice_string (P := P) W t s .i64 .i64 (i : Int) (j : Int) ht (by omega) (by omega) (by omega)
 rwa [Int.toNat_natCast, Int.toNat_natCast] at this
theorem infoU8 : (Tryz.prog.info? 5).map (fun i => (i.zero, i.size, i.bytes)) = some (some (.int .u8 0), 1, 1) := by kernel_rfl
end Go.Proofs.YtghoifkaikddlaaGreat.Hand
namespace Go.Proofs.YtghoifkaikddlaaGreat.Num
open Go.RowKit Go.Proofs.YtghoifkaikddlaaGreatW.PrintWords Go.Proofs.YtghoifkaikddlaaGreatW.PrintLast
theorem w64 {x : Int} (h0 : -9223372036854775808 ≤ x) (h1 : x ≤ 9223372036854775807) : wrap64 x = x := by unfold wrap64; omega
theorem tm {a : Int} (b : Int) (h : 0 ≤ a) : Int.tmod a b = a % b := Int.tmod_eq_emod_of_nonneg h
theorem td {a : Int} (b : Int) (h : 0 ≤ a) : Int.tdiv a b = a / b := Int.tdiv_eq_ediv_of_nonneg h
theorem bt_cat_left (s t : ByteArray) (i : Int) (h : i.toNat < s.size) : bt (s ++ t) i = bt s i := by
 have h' : i.toNat < (s ++ t).size := by rw [ByteArray.size_append]; omega
 rw [← bt_at s i h, ← bt_at (s ++ t) i h', ByteArray.getElem_append_left h]
theorem bytesOf_get? (s : ByteArray) (i : Nat) : (bytesOf s)[i]? = if i < s.size then some (bt s i) else none := by
 split
 ·rename_i h
  have h' : i < s.data.toList.length := by rw [data_length]; exact h
  rw [bytesOf, List.getElem?_map, List.getElem?_eq_getElem h', Option.map_some]
  simp only [bt, Int.toNat_natCast, dif_pos h]
  rfl
 ·rename_i h
  exact List.getElem?_eq_none (by rw [bytesOf_length]; omega)
theorem size_data (s : ByteArray) : s.size = s.data.toList.length := (data_length s).symm
theorem bytesOf_extract (s : ByteArray) (i j : Nat) : bytesOf (s.extract i j) = ((bytesOf s).take j).drop i := by
 unfold bytesOf
 rw [ByteArray.data_extract, Array.toList_extract, List.extract_eq_take_drop, ← List.map_take, ← List.map_drop, List.drop_take]
theorem bt_extract (s : ByteArray) (i j k : Nat) (h : i + k < j) (hs : i + k < s.size) : bt (s.extract i j) k = bt s ((i + k : Nat) : Int) := by
 have h1 : k < (s.extract i j).size := by rw [ByteArray.size_extract]; omega
 have e1 := bytesOf_get? (s.extract i j) k
 have e2 := bytesOf_get? s (i + k)
 rw [if_pos h1, bytesOf_extract, List.getElem?_drop, List.getElem?_take, if_pos (by omega), e2, if_pos hs] at e1
 injection e1 with e1
 exact e1.symm
theorem bytes_ext {s t : ByteArray} (h : bytesOf s = bytesOf t) : s = t := by
 apply ByteArray.ext
 apply Array.toList_inj.1
 unfold bytesOf at h
 have hi : Function.Injective (fun b : UInt8 => (b.toNat : Int)) := fun a b hab => by
  have h2 : (a.toNat : Int) = (b.toNat : Int) := hab
  have : a.toNat = b.toNat := by omega
  exact UInt8.toNat_inj.1 this
 exact (List.map_inj_right (fun a b h => hi h)).1 h
theorem strOfNums_bytesOf (s : ByteArray) : strOfNums (bytesOf s) = s := by
 apply ByteArray.ext
 apply Array.toList_inj.1
 rw [strOfNums_data, bytesOf, List.map_map]
 apply List.ext_getElem (by simp)
 intro n h1 h2
 simp
theorem bytesOf_strOfNums (l : List Int) (h : ∀ x ∈ l, 0 ≤ x ∧ x < 256) : bytesOf (strOfNums l) = l := by
 unfold bytesOf
 rw [strOfNums_data, List.map_map]
 apply List.ext_getElem (by simp)
 intro n h1 h2
 rw [List.getElem_map]
 have := h l[n] (List.getElem_mem h2)
 simp only [Function.comp]
 rw [UInt8.toNat_ofNat', Nat.mod_eq_of_lt (by omega)]
 omega
theorem bytes_range (s : ByteArray) : ∀ x ∈ bytesOf s, 0 ≤ x ∧ x < 256 := by
 intro x hx
 simp only [bytesOf, List.mem_map] at hx
 obtain ⟨b, _, rfl⟩ := hx
 have := b.toNat_lt
 omega
theorem toList_bytes (s : ByteArray) : s.toList = ([] : List UInt8) ↔ s.size = 0 := by
 rw [ByteArray.toList_eq, ← List.length_eq_zero_iff, data_length]
theorem toList_inj {s t : ByteArray} : s.toList = t.toList ↔ s = t := by
 rw [ByteArray.toList_eq, ByteArray.toList_eq]
 constructor
 ·intro h; exact ByteArray.ext (Array.toList_inj.1 h)
 ·intro h; rw [h]
end Go.Proofs.YtghoifkaikddlaaGreat.Num
namespace Go.Proofs.YtghoifkaikddlaaGreat.Bits
open Go.RowKit Go.Proofs.YtghoifkaikddlaaGreatW.PrintWords Go.Proofs.YtghoifkaikddlaaGreatW.PrintLast Go.Proofs.YtghoifkaikddlaaGreat.Num
set_option linter.unusedVariables false
theorem pow_le2 {a b : Nat} (h : a ≤ b) : (2 : Int) ^ a ≤ 2 ^ b := by
 have := Nat.pow_le_pow_right (show 0 < 2 by decide) h
 exact_mod_cast this
def bitA (s : ByteArray) (i : Nat) : Int := bt s ((i / 8 : Nat) : Int) / 2 ^ (i % 8) % 2
theorem bitA_range (s : ByteArray) (i : Nat) : 0 ≤ bitA s i ∧ bitA s i < 2 := by unfold bitA; omega
def val (s : ByteArray) (p : Nat) : Nat → Int
 | 0 => 0
 | n + 1 => val s p n + bitA s (p + n) * 2 ^ n
theorem val_range (s : ByteArray) (p : Nat) : ∀ n, 0 ≤ val s p n ∧ val s p n < 2 ^ n
 | 0 => by simp [val]
 | n + 1 => by
  have h := val_range s p n
  have hb := bitA_range s (p + n)
  have h2 : (0 : Int) < 2 ^ n := Int.pow_pos (by decide)
  rw [val, Int.pow_succ]
  have h3 : bitA s (p + n) = 0 ∨ bitA s (p + n) = 1 := by omega
  rcases h3 with h3 | h3 <;> rw [h3] <;> omega
theorem val_add (s : ByteArray) (p a : Nat) : ∀ b, val s p (a + b) = val s p a + 2 ^ a * val s (p + a) b
 | 0 => by simp [val]
 | b + 1 => by
  rw [← Nat.add_assoc, val, val_add s p a b, val, Int.mul_add, Nat.add_assoc p a b, Int.pow_add, ← Int.add_assoc]
  congr 1
  rw [Int.mul_comm (bitA s (p + (a + b))), Int.mul_assoc, Int.mul_comm (2 ^ b : Int)]
theorem val_mod (s : ByteArray) (p a b : Nat) : val s p (a + b) % 2 ^ a = val s p a := by
 rw [val_add, Int.add_mul_emod_self_left]
 exact Int.emod_eq_of_lt (val_range s p a).1 (val_range s p a).2
theorem val_div (s : ByteArray) (p a b : Nat) : val s p (a + b) / 2 ^ a = val s (p + a) b := by
 have h2 : (2 ^ a : Int) ≠ 0 := by have : (0 : Int) < 2 ^ a := Int.pow_pos (by decide); omega
 rw [val_add, Int.add_mul_ediv_left _ _ h2, Int.ediv_eq_zero_of_lt (val_range s p a).1 (val_range s p a).2, Int.zero_add]
theorem val_byte (s : ByteArray) (a : Nat) : val s (8 * a) 8 = bt s (a : Int) := by
 have hb := bt_range s (a : Int)
 have e : ∀ k, k < 8 → bitA s (8 * a + k) = bt s (a : Int) / 2 ^ k % 2 := fun k hk => by
  unfold bitA; rw [show (8 * a + k) / 8 = a by omega, show (8 * a + k) % 8 = k by omega]
 have e0 := e 0 (by omega)
 rw [Nat.add_zero] at e0
 simp only [val, Nat.add_zero]
 rw [e0, e 1 (by omega), e 2 (by omega), e 3 (by omega), e 4 (by omega), e 5 (by omega), e 6 (by omega), e 7 (by omega)]
 simp only [Int.reducePow]
 omega
def bitsN (n : Int) : Nat → List Int
 | 0 => []
 | k + 1 => n % 2 :: bitsN (n / 2) k
theorem bitsN_length (n : Int) : ∀ k, (bitsN n k).length = k
 | 0 => rfl
 | k + 1 => by rw [bitsN, List.length_cons, bitsN_length (n / 2) k]
theorem bitsN_add (n : Int) (hn : 0 ≤ n) : ∀ a b, bitsN n (a + b) = bitsN n a ++ bitsN (n / 2 ^ a) b
 | 0, b => by simp [bitsN]
 | a + 1, b => by
  rw [show a + 1 + b = (a + b) + 1 by omega, bitsN, bitsN, bitsN_add (n / 2) (by omega) a b, List.cons_append, Int.ediv_ediv_of_nonneg (by decide), Int.pow_succ']
theorem bitsN_mod (n : Int) (hn : 0 ≤ n) : ∀ a, bitsN (n % 2 ^ a) a = bitsN n a
 | 0 => rfl
 | a + 1 => by
  have h2 : (0 : Int) < 2 ^ a := Int.pow_pos (by decide)
  rw [bitsN, bitsN, ← bitsN_mod (n / 2) (by omega) a, Int.pow_succ']
  congr 1
  ·exact Int.emod_emod_of_dvd _ ⟨2 ^ a, rfl⟩
  ·congr 1
   have h3 := Int.emod_add_mul_ediv n (2 * 2 ^ a)
   have h4 : n / 2 / 2 ^ a = n / (2 * 2 ^ a) := Int.ediv_ediv_of_nonneg (by decide)
   have h5 := Int.emod_add_mul_ediv (n / 2) (2 ^ a)
   rw [h4] at h5
   have h6 : 2 * 2 ^ a * (n / (2 * 2 ^ a)) = 2 * (2 ^ a * (n / (2 * 2 ^ a))) := by rw [Int.mul_assoc]
   generalize 2 ^ a * (n / (2 * 2 ^ a)) = z at *
   omega
theorem bitsN_cat (x n : Int) (m : Nat) (hx0 : 0 ≤ x) (hx : x < 2 ^ m) (hn : 0 ≤ n) (k : Nat) : bitsN (x + n * 2 ^ m) (m + k) = bitsN x m ++ bitsN n k := by
 have h2 : (0 : Int) < 2 ^ m := Int.pow_pos (by decide)
 have h0 : 0 ≤ x + n * 2 ^ m := by have := Int.mul_nonneg hn (Int.le_of_lt h2); omega
 rw [bitsN_add _ h0, Int.add_mul_ediv_right _ _ (by omega), Int.ediv_eq_zero_of_lt hx0 hx, Int.zero_add, ← bitsN_mod _ h0, Int.add_mul_emod_self_right, Int.emod_eq_of_lt hx0 hx]
def flat (xs : List Int) : List Int := xs.flatMap (fun x => bitsN x 8)
theorem flat_length (xs : List Int) : (flat xs).length = 8 * xs.length := by
 induction xs with
 | nil => rfl
 | cons x xs ih => rw [flat, List.flatMap_cons, List.length_append, bitsN_length, List.length_cons, Nat.mul_add]; unfold flat at ih; omega
theorem flat_snoc (xs : List Int) (x : Int) : flat (xs ++ [x]) = flat xs ++ bitsN x 8 := by simp [flat]
structure Held (L : List Int) (xs : List Int) (x : Int) (m : Nat) : Prop where
 lt : m < 8
 x0 : 0 ≤ x
 x1 : x < 2 ^ m
 eq : L = flat xs ++ bitsN x m
 by_ : ∀ y ∈ xs, 0 ≤ y ∧ y < 256
theorem Held.nil : Held [] [] 0 0 := ⟨by omega, Int.le_refl _, by decide, rfl, by simp⟩
theorem Held.length {L xs : List Int} {x : Int} {m : Nat} (h : Held L xs x m) : L.length = 8 * xs.length + m := by rw [h.eq, List.length_append, flat_length, bitsN_length]
theorem bitsN_getD (n : Int) (hn : 0 ≤ n) : ∀ k i, i < k → (bitsN n k).getD i 0 = n / 2 ^ i % 2
 | 0, i, h => by omega
 | k + 1, 0, _ => by rw [bitsN, List.getD_cons_zero, Int.pow_zero, Int.ediv_one]
 | k + 1, i + 1, h => by
  rw [bitsN, List.getD_cons_succ, bitsN_getD (n / 2) (by omega) k i (by omega), Int.ediv_ediv_of_nonneg (by decide), Int.pow_succ']
theorem bitsN_zero : ∀ k, bitsN 0 k = List.replicate k 0
 | 0 => rfl
 | k + 1 => by rw [bitsN, List.replicate_succ]; exact congrArg _ (bitsN_zero k)
theorem bitsN_pad (x : Int) (m : Nat) (h0 : 0 ≤ x) (h : x < 2 ^ m) (k : Nat) : bitsN x m ++ List.replicate k 0 = bitsN x (m + k) := by
 rw [bitsN_add x h0, Int.ediv_eq_zero_of_lt h0 h, bitsN_zero]
theorem flat_cons (y : Int) (ys : List Int) : flat (y :: ys) = bitsN y 8 ++ flat ys := by simp [flat]
theorem flat_getD : ∀ (ys : List Int), (∀ y ∈ ys, 0 ≤ y ∧ y < 256) → ∀ i, i < 8 * ys.length → (flat ys).getD i 0 = ys.getD (i / 8) 0 / 2 ^ (i % 8) % 2
 | [], _, i, h => by simp at h
 | y :: ys, hy, i, h => by
  have h0 := hy y (List.mem_cons_self ..)
  rw [flat_cons, List.getD_eq_getElem?_getD]
  by_cases h8 : i < 8
  ·rw [List.getElem?_append_left (by rw [bitsN_length]; exact h8), ← List.getD_eq_getElem?_getD, bitsN_getD y h0.1 8 i h8, show i / 8 = 0 by omega, show i % 8 = i by omega]; rfl
  ·rw [List.getElem?_append_right (by rw [bitsN_length]; omega), bitsN_length, ← List.getD_eq_getElem?_getD, flat_getD ys (fun z hz => hy z (List.mem_cons_of_mem _ hz)) (i - 8) (by rw [List.length_cons] at h; omega)]
   rw [show i / 8 = (i - 8) / 8 + 1 by omega, List.getD_cons_succ, show i % 8 = (i - 8) % 8 by omega]
theorem bitA_flat (s : ByteArray) (i : Nat) (h : i < 8 * s.size) : bitA s i = (flat (bytesOf s)).getD i 0 := by
 rw [flat_getD _ (bytes_range s) i (by rw [bytesOf_length]; exact h)]
 unfold bitA
 have e := bytesOf_get? s (i / 8)
 rw [if_pos (by omega)] at e
 rw [List.getD_eq_getElem?_getD, e]; rfl
theorem val_of (s : ByteArray) (p : Nat) (n : Int) (hn : 0 ≤ n) : ∀ w, (∀ i, i < w → bitA s (p + i) = n / 2 ^ i % 2) → val s p w = n % 2 ^ w
 | 0, _ => by rw [val, Int.pow_zero, Int.emod_one]
 | w + 1, h => by
  rw [val, val_of s p n hn w (fun i hi => h i (by omega)), h w (by omega)]
  have h1 := Int.emod_add_mul_ediv n (2 ^ w)
  have h2 := Int.emod_add_mul_ediv (n / 2 ^ w) 2
  have h3 : n / 2 ^ w / 2 = n / 2 ^ (w + 1) := by rw [Int.ediv_ediv_of_nonneg (Int.le_of_lt (Int.pow_pos (by decide))), Int.pow_succ]
  have h4 := Int.emod_add_mul_ediv n (2 ^ (w + 1))
  rw [h3] at h2
  rw [Int.pow_succ] at h4 ⊢
  have h5 : (2 : Int) ^ w * (n / 2 ^ w) = 2 ^ w * (n / 2 ^ w % 2) + 2 ^ w * 2 * (n / (2 ^ w * 2)) := by
   rw [Int.pow_succ] at h2
   rw [← h2, Int.mul_add, h2, Int.mul_assoc]
  rw [Int.mul_comm (n / 2 ^ w % 2)]
  omega
def packL (xs : List Int) (x : Int) (m : Nat) : List Int := if m = 0 then xs else xs ++ [x]
theorem Held.pack_range {L xs : List Int} {x : Int} {m : Nat} (h : Held L xs x m) : ∀ y ∈ packL xs x m, 0 ≤ y ∧ y < 256 := by
 intro y hy
 unfold packL at hy
 split at hy
 ·exact h.by_ y hy
 ·rcases List.mem_append.1 hy with hy | hy
  ·exact h.by_ y hy
  ·rw [List.mem_singleton.1 hy]
   have h2 : (2 : Int) ^ m ≤ 2 ^ 8 := pow_le2 (by have := h.lt; omega)
   exact ⟨h.x0, Int.lt_of_lt_of_le h.x1 h2⟩
theorem Held.pack {L xs : List Int} {x : Int} {m : Nat} (h : Held L xs x m) : flat (packL xs x m) = L ++ List.replicate ((8 - m) % 8) 0 := by
 have hm := h.lt
 unfold packL
 rw [h.eq]
 by_cases h0 : m = 0
 ·subst h0
  rw [if_pos rfl]
  simp [bitsN]
 ·rw [if_neg h0, flat_snoc, List.append_assoc, show (8 - m) % 8 = 8 - m by omega, bitsN_pad x m h.x0 h.x1, show m + (8 - m) = 8 by omega]
theorem Held.pack_length {L xs : List Int} {x : Int} {m : Nat} (h : Held L xs x m) : (packL xs x m).length = (L.length + 7) / 8 := by
 have hm := h.lt
 rw [h.length]
 unfold packL
 split
 ·omega
 ·rw [List.length_append, List.length_singleton]; omega
structure TextOf (L : List Int) (t : ByteArray) : Prop where
 size : t.size = (L.length + 7) / 8
 eq : flat (bytesOf t) = L ++ List.replicate ((8 - L.length % 8) % 8) 0
theorem Held.text {L xs : List Int} {x : Int} {m : Nat} (h : Held L xs x m) : TextOf L (strOfNums (packL xs x m)) := by
 have hb := bytesOf_strOfNums _ h.pack_range
 refine ⟨by rw [← bytesOf_length, hb, h.pack_length], ?_⟩
 rw [hb, h.pack, h.length]
 have := h.lt
 rw [show (8 * xs.length + m) % 8 = m by omega]
theorem TextOf.bit {L : List Int} {t : ByteArray} (h : TextOf L t) (i : Nat) (hi : i < L.length) : bitA t i = L.getD i 0 := by
 have hs := h.size
 rw [bitA_flat t i (by omega), h.eq, List.getD_eq_getElem?_getD, List.getElem?_append_left hi, ← List.getD_eq_getElem?_getD]
theorem TextOf.get {A B : List Int} {n : Int} {w : Nat} {t : ByteArray} (h : TextOf (A ++ bitsN n w ++ B) t) (hn : 0 ≤ n) (hw : n < 2 ^ w) : val t A.length w = n := by
 rw [val_of t A.length n hn w (fun i hi => ?_), Int.emod_eq_of_lt hn hw]
 rw [h.bit (A.length + i) (by simp [bitsN_length]; omega), List.getD_eq_getElem?_getD, List.append_assoc, List.getElem?_append_right (by omega), Nat.add_sub_cancel_left, List.getElem?_append_left (by rw [bitsN_length]; exact hi), ← List.getD_eq_getElem?_getD, bitsN_getD n hn w i hi]
end Go.Proofs.YtghoifkaikddlaaGreat.Bits
