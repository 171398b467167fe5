/- What the hand-made contracts of this seat import: the seat's program, the library's laws and the printed words. Plain facts on wrapped numbers, rounds and bytes, for this seat's pure texts. Bits of bytes and of numbers: plain facts. -/
import Derived.Test.YtkmmmlbppobifaaProg
import Derived.Below
import Derived.Deep.Draws
import Derived.Deep.AppendLies
import Derived.Maps.AppendAt
import Derived.OwnWalk
import Derived.Laws.BytesArg
import Derived.Laws.MakeOwn
import Derived.Laws.OwnMore
import Derived.Deep.OwnRows
import Derived.Tactics
import Derived.Lib.ConvBytes
import Derived.Laws.Slices
import Derived.WalkKit
import Derived.KernelRfl
import Derived.RowKit3
import Derived.Deep.LoopGhost
import Derived.Deep.QuietTactic
import Derived.BigQuiet
import Derived.WideLaws
import Derived.Deep.DeepCutAuto
import Derived.Deep.CutBlock
import Derived.Deep.RegionHeld3
import Derived.Laws.Rows
import Derived.Lib.AppendStr
import Derived.ArgAppend
import Derived.Laws.IdiomCopy
import Derived.OrdersHeld
import Derived.Deep.RegionLaw
import Derived.Deep.RegionWith
import Derived.Laws.BitsLemmas
import Derived.RowKit
import Derived.Test.YtkmmmlbppobifaaWWords
import Derived.Test.YtkmmmlbppobifaaWLast
import Derived.Test.YtkmmmlbppobifaaWQPut
import Derived.Test.YtkmmmlbppobifaaWMore
import Derived.Test.YtkmmmlbppobifaaWEqStruct
namespace Go.Proofs.Ytkmmmlbppobifaa.Hand
open Go.RowKit Go.Proofs.YtkmmmlbppobifaaW.PrintWords Go.Proofs.YtkmmmlbppobifaaW.PrintLast Go.Proofs.YtkmmmlbppobifaaW.PrintMore
structure Fr (w w' : World) (S : Nat → Prop) : Prop where
 os : w'.os = w.os
 tape : w'.tape = w.tape
 output : w'.output = w.output
 size : w.heap.size ≤ w'.heap.size
 block : ∀ k, k < w.heap.size → ¬ S k → w'.heap[k]? = w.heap[k]?
section
variable {w w' w1 w2 : World} {S S1 S2 : Nat → Prop}
theorem Fr.refl (w : World) (S : Nat → Prop) : Fr w w S := ⟨rfl, rfl, rfl, Nat.le_refl _, fun _ _ _ => rfl⟩
theorem Fr.mono (h : Fr w w' S1) (hs : ∀ k, k < w.heap.size → S1 k → S k) : Fr w w' S := ⟨h.os, h.tape, h.output, h.size, fun k hk hn => h.block k hk (fun h1 => hn (hs k hk h1))⟩
theorem Fr.trans (h : Fr w w1 S) (k : Fr w1 w2 S2) (hs : ∀ k, k < w.heap.size → S2 k → S k) : Fr w w2 S :=
 ⟨k.os.trans h.os, k.tape.trans h.tape, k.output.trans h.output, Nat.le_trans h.size k.size, fun i hi hn => (k.block i (Nat.lt_of_lt_of_le hi h.size) (fun h2 => hn (hs i hi h2))).trans (h.block i hi hn)⟩
theorem Fr.then_ (h : Fr w w1 S) (k : Fr w1 w2 S) : Fr w w2 S := h.trans k (fun _ _ h => h)
theorem Fr.drew (h : Fr w w1 S) : Fr w w1.drew S := ⟨h.os, h.tape, h.output, h.size, h.block⟩
theorem Fr.drewN (h : Fr w w1 S) (n : Nat) : Fr w (w1.drewN n) S := ⟨h.os, h.tape, h.output, h.size, h.block⟩
theorem Fr.of_drewN {n : Nat} (h : Fr (w.drewN n) w1 S) : Fr w w1 S := ⟨h.os, h.tape, h.output, h.size, h.block⟩
theorem Fr.of_below (h : Below w.heap.size w w1) (S : Nat → Prop) : Fr w w1 S := ⟨h.os, h.tape, h.output, h.size, fun k hk _ => h.block k hk⟩
theorem Fr.of_drawn (h : Drawn0 w w1) (S : Nat → Prop) : Fr w w1 S := by
 obtain ⟨n, rfl⟩ := h.out
 exact (Fr.refl w S).drewN n
theorem Fr.of_grown {row : Option Nat} (h : w.grownBy w1 row) : Fr w w1 (fun k => row = some k) := ⟨h.os, h.tape, h.output, h.size, fun k hk hn => h.block k hk (fun e => hn e.symm)⟩
theorem Fr.alloc (h : Fr w w1 S) (o : Obj) : Fr w (w1.alloc o) S := h.then_ (Fr.of_below (below_alloc (Below.refl _ _) o) S)
theorem Fr.setCell (h : Fr w w1 S) {p : Addr} (hp : p.block < w.heap.size → S p.block) (u : Value) : Fr w (w1.setCell p u) S :=
 h.trans (S2 := fun k => k = p.block) ⟨rfl, rfl, rfl, by simp [World.setCell], fun k _ hn => Below.heap_setCell _ _ _ _ hn⟩ (fun k hk e => by subst e; exact hp hk)
theorem Fr.set1 {g : Nat} (h : Fr w w1 (· = g)) (o : Nat) (u : Value) : Fr w (w1.setCell ⟨g, o, none⟩ u) (· = g) := h.setCell (p := ⟨g, o, none⟩) (fun _ => rfl) u
theorem Fr.below {B : Nat} (h : Fr w w1 S) (hB : ∀ k, S k → B ≤ k) (hw : B ≤ w.heap.size) : Below B w w1 :=
 ⟨h.os, h.tape, h.output, h.size, fun k hk => h.block k (by omega) (fun hs => by have := hB k hs; omega)⟩
theorem Fr.blk (h : Fr w w1 S) {g : Nat} {o : Obj} (hb : w.heap[g]? = some o) (hg : ¬ S g) : w1.heap[g]? = some o := (h.block g (blk_lt hb) hg).trans hb
theorem Fr.cell (h : Fr w w1 S) {a : Addr} {v : Value} (hc : w.cell? a = some v) (hg : ¬ S a.block) : w1.cell? a = some v := by
 have := h.block a.block (World.block_lt_of_cell? w a hc) hg
 simpa [World.cell?, this] using hc
theorem Fr.own (h : Fr w w1 S) {base : Nat} {e : TypeId} {size n : Nat} {v : Value} {xs : List Value} (ho : w.ownsRow base e size v n xs) (hg : ∀ k, v.ownBlock = some k → ¬ S k) : w1.ownsRow base e size v n xs := by
 refine own_move ho (fun k hk => h.block k ?_ (hg k hk))
 exact (ho.lt k hk).2
end
theorem bt_nat (s : ByteArray) (k : Nat) (h : k < s.size) : bt s k = (s[k].toNat : Int) := (bt_at s k h).symm
def Row (W : World) (B : Nat) (e : TypeId) (k : IntKind) (v : Value) (xs : List Int) : Prop := W.ownsRow B e 1 v xs.length (nums k xs)
section
variable {P : Program} {ops : Array Oper} {rest : List Oper} {o : Oper} {a : Act} {Q : Exit → Act → World → Prop} {K : Act → World → Prop} {W w1 : World} {B : Nat} {e : TypeId} {k : IntKind} {v : Value} {xs : List Int}
theorem Row.nil (W : World) (B : Nat) (e : TypeId) (k : IntKind) : Row W B e k (.slice none 0 0) [] := own_nil W B e 1
theorem Row.lt (h : Row W B e k v xs) : ∀ g, v.ownBlock = some g → B ≤ g ∧ g < W.heap.size := World.ownsRow.lt h
theorem Row.fr {S : Nat → Prop} (h : Row W B e k v xs) (hf : Fr W w1 S) (hg : ∀ g, v.ownBlock = some g → ¬ S g) : Row w1 B e k v xs := hf.own h hg
theorem Row.blk (h : Row W B e k v xs) : ∀ g, v.ownBlock = some g → ∃ cells, W.heap[g]? = some (.cells cells e (0, 0)) := fun g hg => own_typed h g hg
theorem Row.ne_blk (h : Row W B e k v xs) {g : Nat} {t : TypeId} {cs : Array Value} {fr : Nat × Nat} (hb : W.heap[g]? = some (.cells cs t fr)) (hne : e ≠ t) : ∀ j, v.ownBlock = some j → j ≠ g := by
 rintro j hj rfl
 obtain ⟨cells, hc⟩ := h.blk j hj
 rw [hc] at hb
 injection hb with hb
 injection hb with _ hb
 exact hne hb
theorem Row.drew (h : Row W B e k v xs) : Row W.drew B e k v xs := h
theorem Row.alloc (h : Row W B e k v xs) (ob : Obj) : Row (W.alloc ob) B e k v xs := World.ownsRow.alloc h ob
theorem Row.below (h : Row W B e k v xs) (hb : Below W.heap.size W w1) : Row w1 B e k v xs := pw_own_below h hb
theorem Row.reads (h : Row W B e k v xs) : ∃ A c, v = .slice A xs.length c ∧ ReadsInt W k A xs.length xs := own_reads h
theorem Row.str {P : Program} {src dst e' : TypeId} (hs : P.underlying src = some (.slice e')) (he : P.underlying e' = some (.int .u8)) (hd : P.underlying dst = some .string) (h : Row W B e .u8 v xs) :
  (convert src dst v).run P W = .ok (.string (strOfNums xs)) W := own_string hs he hd h
theorem Row.at_ {g n cap : Nat} (h : Row W B e k (.slice (some ⟨g, 0, none⟩) n cap) xs) (i : Nat) (hi : i < xs.length) : W.cell? ⟨g, i, none⟩ = some (.int k (xs.getD i 0)) ∧ W.frozen? ⟨g, i, none⟩ = false := by
 obtain ⟨A, c, h1, _⟩ := Row.reads h
 injection h1 with h1 h2 h3
 subst h2
 have := own_at (i := (i : Int)) h (by omega) (by omega)
 rw [Int.toNat_natCast] at this
 exact this
theorem Row.store {g n cap : Nat} (h : Row W B e k (.slice (some ⟨g, 0, none⟩) n cap) xs) (i : Nat) (x : Int) : Row (W.setCell ⟨g, i, none⟩ (.int k x)) B e k (.slice (some ⟨g, 0, none⟩) n cap) (xs.set i x) := by
 obtain ⟨A, c, h1, _⟩ := Row.reads h
 injection h1 with h1 h2 h3
 subst h2
 have := (own_store (i := (i : Int)) (x := x) h).1
 rw [Int.toNat_natCast] at this
 unfold Row
 rw [List.length_set]
 exact this
theorem Row.empty (W : World) (B : Nat) (e : TypeId) (k : IntKind) (hb : B ≤ W.heap.size) : Row (W.alloc (.cells #[] e)) B e k (.slice (some ⟨W.heap.size, 0, none⟩) 0 0) [] :=
 World.ownsRow_made W #[] 0 hb (Nat.zero_le _) (by simp)
structure App (W w1 : World) (B : Nat) (e : TypeId) (k : IntKind) (v v1 : Value) (xs : List Int) : Prop where
 row : Row w1 B e k v1 xs
 grown : W.grownBy w1 v.ownBlock
theorem Row.shape (h : Row W B e k v xs) : ∃ A n m, v = .slice A n m ∧ Aside0 (n = xs.length) := by
 obtain ⟨A, m, h1, _⟩ := h.reads
 exact ⟨A, _, m, h1, ⟨rfl⟩⟩
theorem App.blk {ys : List Int} {v1 : Value} (hap : App W w1 B e k v v1 ys) (hr : Row W B e k v xs) {g : Nat} {t : TypeId} {cs : Array Value} {fr : Nat × Nat} (hb : W.heap[g]? = some (.cells cs t fr)) (hne : e ≠ t) :
  w1.heap[g]? = some (.cells cs t fr) := blk_grown hb hap.grown (fun he => hr.ne_blk hb hne g he.symm rfl)
theorem App.below {ys : List Int} {v1 : Value} (hap : App W w1 B e k v v1 ys) (hr : Row W B e k v xs) (hB : B ≤ W.heap.size) : Below B W w1 := (Below.refl B W).grown hap.grown hB (fun g hg => (hr.lt g hg).1)
theorem app_wp (B : Nat) (hgd : o.guard = none) (s x : Operand) (t e : TypeId) (k : IntKind) (bytes : Nat)
  (ho : o.op = .call { callee := .builtin .append, args := #[s, x], argTypes := #[t, t] })
  (ht : P.underlying t = some (.slice e)) (hinfo : (P.info? e).map (fun i => (i.zero, i.size, i.bytes)) = some (some (.int k 0), 1, bytes))
  (v : Value) (xs ys : List Int) (hs : a.eval s = v) (ad : Addr) (m c : Nat) (hx : a.eval x = .slice (some ad) m c) (hm : ys.length = m)
  (hnews : ∀ j u, (nums k ys)[j]? = some u → W.cell? (ad.add j) = some u) (HO : Row W B e k v xs) (hB : B ≤ W.heap.size) (h63 : xs.length + m ≤ maxLen) (hl : (xs.length + m) * bytes ≤ 140737488355328)
  (h : ∀ v1 w1, App W w1 B e k v v1 (xs ++ ys) → wpList P ops Q rest (a.put o.dst v1) w1) :
  wpList P ops Q (o :: rest) a W := by
 obtain ⟨i0, hi, hzz⟩ := Option.map_eq_some_iff.1 hinfo
 simp only [Prod.mk.injEq] at hzz
 obtain ⟨hz0, hz1, hz2⟩ := hzz
 refine wpList_append_own_at W hgd s x t ho B e i0 (.int k 0) 1 bytes ht hi hz0 hz1 hz2 rfl (by omega) v xs.length (nums k xs) hs HO ad m c (nums k ys) hx (by rw [nums_length, hm]; omega)
  hnews (fun u hu => by simp [nums] at hu; obtain ⟨z, _, rfl⟩ := hu; rfl) h63 hl hB ?_
 intro v1 w1 hown hg _ _
 refine h v1 w1 ⟨?_, hg⟩
 unfold Row
 rw [List.length_append, hm, nums_append]
 exact hown
theorem app_step {E : Prop} (B : Nat) (hgd : o.guard = none) (s x : Operand) (t e : TypeId) (k : IntKind) (bytes : Nat)
  (ho : o.op = .call { callee := .builtin .append, args := #[s, x], argTypes := #[t, t] })
  (ht : P.underlying t = some (.slice e)) (hinfo : (P.info? e).map (fun i => (i.zero, i.size, i.bytes)) = some (some (.int k 0), 1, bytes))
  (v : Value) (xs ys : List Int) (hs : a.eval s = v) (ad : Addr) (m c : Nat) (hx : a.eval x = .slice (some ad) m c) (hm : ys.length = m)
  (hnews : ∀ j u, (nums k ys)[j]? = some u → W.cell? (ad.add j) = some u) (HO : Row W B e k v xs) (hB : B ≤ W.heap.size) (h63 : xs.length + m ≤ maxLen) (hl : (xs.length + m) * bytes ≤ 140737488355328)
  (h : ∀ v1 w1, App W w1 B e k v v1 (xs ++ ys) → K (a.put o.dst v1) w1) :
  if Region.wanted o (yielded ops a.tmps) = true then Oper.wp P o a W K Q else E := by
 have hw : Region.wanted o (yielded ops a.tmps) = true := by simp [Region.wanted, hgd]
 obtain ⟨i0, hi, hzz⟩ := Option.map_eq_some_iff.1 hinfo
 simp only [Prod.mk.injEq] at hzz
 obtain ⟨hz0, hz1, hz2⟩ := hzz
 rw [if_pos hw]
 obtain ⟨v1, w1, hr, hown, hg, _, _⟩ := run_append_own_at (P := P) W B t o.type e i0 (.int k 0) 1 bytes ht hi hz0 hz1 hz2 rfl (by omega) v xs.length (nums k xs) HO ad m c (nums k ys) (by rw [nums_length, hm]; omega)
  hnews (fun u hu => by simp [nums] at hu; obtain ⟨z, _, rfl⟩ := hu; rfl) h63 hl hB
 unfold Oper.wp execOp
 simp only [ho, resolve, invoke, builtin, Sem.run_bind, Sem.run_pure, Result.andThen_ok, List.map_toArray, List.map_cons, List.map_nil, hs, hx, hr]
 refine h v1 w1 ⟨?_, hg⟩
 unfold Row
 rw [List.length_append, hm, nums_append]
 exact hown
theorem news_lit (W : World) (k : IntKind) (ys : List Int) (cs : Array Value) (e : TypeId) (hcs : cs = (nums k ys).toArray) : ∀ j u, (nums k ys)[j]? = some u → (W.alloc (.cells cs e)).cell? ((⟨W.heap.size, 0, none⟩ : Addr).add j) = some u := by
 subst hcs
 simpa using World.news_of_block (cs := (nums k ys).toArray) (t := e) (fr := (0, 0)) (heap_alloc_new W (.cells (nums k ys).toArray e))
end
section
variable {P : Program} {ops : Array Oper} {rest : List Oper} {o : Oper} {a : Act} {Q : Exit → Act → World → Prop} {K : Act → World → Prop} {W w1 : World} {B : Nat} {e : TypeId} {v : Value} {xs : List Int}
end
theorem Row.set {W : World} {B : Nat} {e : TypeId} {k : IntKind} {v : Value} {xs : List Int} (h : Row W B e k v xs) {g : Nat} {t : TypeId} {cs : Array Value} {fr : Nat × Nat} (hb : W.heap[g]? = some (.cells cs t fr)) (hne : e ≠ t) (j : Nat) (u : Value) :
  Row (W.setCell ⟨g, j, none⟩ u) B e k v xs :=
 h.fr (S := fun i => i = g) ((Fr.refl W _).set1 j u) (fun i hi => h.ne_blk hb hne i hi)
theorem infoU8 : (Try.prog.info? 5).map (fun i => (i.zero, i.size, i.bytes)) = some (some (.int .u8 0), 1, 1) := by kernel_rfl
end Go.Proofs.Ytkmmmlbppobifaa.Hand
namespace Go.Proofs.Ytkmmmlbppobifaa.Num
open Go.RowKit Go.Proofs.YtkmmmlbppobifaaW.PrintWords Go.Proofs.YtkmmmlbppobifaaW.PrintLast
theorem w64 {x : Int} (h0 : -9223372036854775808 ≤ x) (h1 : x ≤ 9223372036854775807) : wrap64 x = x := by unfold wrap64; omega
theorem bytesOf_get? (s : ByteArray) (i : Nat) : (bytesOf s)[i]? = if i < s.size then some (bt s i) else none := by
 split
 ·rename_i h
  have h' : i < s.data.toList.length := by rw [data_length]; exact h
  rw [bytesOf, List.getElem?_map, List.getElem?_eq_getElem h', Option.map_some]
  simp only [bt, Int.toNat_natCast, dif_pos h]
  rfl
 ·rename_i h
  exact List.getElem?_eq_none (by rw [bytesOf_length]; omega)
theorem bytesOf_extract (s : ByteArray) (i j : Nat) : bytesOf (s.extract i j) = ((bytesOf s).take j).drop i := by
 unfold bytesOf
 rw [ByteArray.data_extract, Array.toList_extract, List.extract_eq_take_drop, ← List.map_take, ← List.map_drop, List.drop_take]
theorem bt_extract (s : ByteArray) (i j k : Nat) (h : i + k < j) (hs : i + k < s.size) : bt (s.extract i j) k = bt s ((i + k : Nat) : Int) := by
 have h1 : k < (s.extract i j).size := by rw [ByteArray.size_extract]; omega
 have e1 := bytesOf_get? (s.extract i j) k
 have e2 := bytesOf_get? s (i + k)
 rw [if_pos h1, bytesOf_extract, List.getElem?_drop, List.getElem?_take, if_pos (by omega), e2, if_pos hs] at e1
 injection e1 with e1
 exact e1.symm
theorem bytes_ext {s t : ByteArray} (h : bytesOf s = bytesOf t) : s = t := by
 apply ByteArray.ext
 apply Array.toList_inj.1
 unfold bytesOf at h
 have hi : Function.Injective (fun b : UInt8 => (b.toNat : Int)) := fun a b hab => by
  have h2 : (a.toNat : Int) = (b.toNat : Int) := hab
  have : a.toNat = b.toNat := by omega
  exact UInt8.toNat_inj.1 this
 exact (List.map_inj_right (fun a b h => hi h)).1 h
theorem bytesOf_strOfNums (l : List Int) (h : ∀ x ∈ l, 0 ≤ x ∧ x < 256) : bytesOf (strOfNums l) = l := by
 unfold bytesOf
 rw [strOfNums_data, List.map_map]
 apply List.ext_getElem (by simp)
 intro n h1 h2
 rw [List.getElem_map]
 have := h l[n] (List.getElem_mem h2)
 simp only [Function.comp]
 rw [UInt8.toNat_ofNat', Nat.mod_eq_of_lt (by omega)]
 omega
theorem toList_bytes (s : ByteArray) : s.toList = ([] : List UInt8) ↔ s.size = 0 := by
 rw [ByteArray.toList_eq, ← List.length_eq_zero_iff, data_length]
theorem toList_inj {s t : ByteArray} : s.toList = t.toList ↔ s = t := by
 rw [ByteArray.toList_eq, ByteArray.toList_eq]
 constructor
 ·intro h; exact ByteArray.ext (Array.toList_inj.1 h)
 ·intro h; rw [h]
end Go.Proofs.Ytkmmmlbppobifaa.Num
namespace Go.Proofs.Ytkmmmlbppobifaa.Bits
open Go.RowKit Go.Proofs.YtkmmmlbppobifaaW.PrintWords Go.Proofs.YtkmmmlbppobifaaW.PrintLast Go.Proofs.Ytkmmmlbppobifaa.Num
set_option linter.unusedVariables false
def bitA (s : ByteArray) (i : Nat) : Int := bt s ((i / 8 : Nat) : Int) / 2 ^ (i % 8) % 2
def val (s : ByteArray) (p : Nat) : Nat → Int
 | 0 => 0
 | n + 1 => val s p n + bitA s (p + n) * 2 ^ n
end Go.Proofs.Ytkmmmlbppobifaa.Bits
