/- The scanner of layer 15: what it is in memory; more, sign, told, bad, twice, escaped, octal; walked by hand. -/
import Derived.Test.YtkmmmlbppobifaaHand15a
import Derived.Test.YtkmmmlbppobifaaP15sx1
import Derived.Great.BuildSlice
import Derived.Handy
import Derived.WalkMore
namespace Go.Proofs.Ytkmmmlbppobifaa.Hand
open Go.RowKit Go.Proofs.YtkmmmlbppobifaaW.PrintWords Go.Proofs.YtkmmmlbppobifaaW.PrintLast Go.Proofs.YtkmmmlbppobifaaW.PrintMore Go.Proofs.Ytkmmmlbppobifaa.Num Go.Proofs.Ytkmmmlbppobifaa.P01a
set_option linter.unusedVariables false
set_option linter.unusedSimpArgs false
theorem nat_bt (s : ByteArray) (i : Nat) (h : i < s.size) : ((s[i]'h).toNat : Int) = bt s (i : Int) := (bt_nat s i h).symm
def hexF (c : Int) : Int := if 48 ≤ c ∧ c ≤ 57 then c - 48 else if 65 ≤ c ∧ c ≤ 70 then c - 55 else if 97 ≤ c ∧ c ≤ 102 then c - 87 else -1
theorem hex_all : ∀ c : Fin 256, octet_Hex.f 2 ((c.val : Nat) : Int) = some (hexF ((c.val : Nat) : Int)) := by decide +kernel
theorem hex_calls (s : ByteArray) (i : Int) (w : World) : Calls Try.prog 46 #[.int .u8 (bt s i)] w fun e w' => e = .returned (.int .i64 (hexF (bt s i))) ∧ Drawn0 w w' := by
 have h := bt_range s i
 obtain ⟨m, hm⟩ := Int.eq_ofNat_of_zero_le h.1
 rw [hm]
 exact octet_Hex.calls 2 _ _ w (hex_all ⟨m, by omega⟩)
theorem hexF_range (c : Int) : -1 ≤ hexF c ∧ hexF c ≤ 15 := by unfold hexF; split; omega; split; omega; split <;> omega
theorem tokInfo : (Try.prog.info? 24).map (·.size) = some 5 := by kernel_rfl
abbrev tokC (kind n : Int) (s : ByteArray) (a b : Int) : Array Value := #[.int .i64 kind, .int .i64 n, .string s, .int .i64 a, .int .i64 b]
structure ScAt (w : World) (B g : Nat) (s : ByteArray) (p : Nat) (o : List Int) : Prop where
 blk : ∃ v, w.heap[g]? = some (.cells #[.string s, .int .i64 (p : Int), v] 47 (0, 0)) ∧ Row w B 5 .u8 v o
def U8c (w : World) (k : Nat) : Prop := ∃ cs fr, w.heap[k]? = some (.cells cs 5 fr)
def SC (B g : Nat) (w : World) (k : Nat) : Prop := k = g ∨ (B ≤ k ∧ U8c w k)
section
variable {w w1 w2 : World} {B g : Nat} {s : ByteArray} {p : Nat} {o : List Int}
theorem ScAt.below (h : ScAt w B g s p o) (hb : Below w.heap.size w w1) : ScAt w1 B g s p o := by
 obtain ⟨v, h1, h2⟩ := h.blk
 exact ⟨v, blk_below h1 hb, h2.below hb⟩
theorem ScAt.drawn (h : ScAt w B g s p o) (hd : Drawn0 w w1) : ScAt w1 B g s p o := by
 obtain ⟨n, rfl⟩ := hd.out
 exact ⟨h.blk⟩
theorem ScAt.cells (h : ScAt w B g s p o) : ∃ A n c, Aside0 (n = o.length) ∧ w.heap[g]? = some (.cells #[.string s, .int .i64 (p : Int), .slice A n c] 47 (0, 0)) ∧ Row w B 5 .u8 (.slice A n c) o ∧ w.cell? ⟨g, 0, none⟩ = some (.string s) ∧ w.cell? ⟨g, 1, none⟩ = some (.int .i64 (p : Int)) ∧ w.cell? ⟨g, 2, none⟩ = some (.slice A n c) ∧ w.frozen? ⟨g, 1, none⟩ = false ∧ w.frozen? ⟨g, 2, none⟩ = false := by
 obtain ⟨v, h1, h2⟩ := h.blk
 obtain ⟨A, n, c, hv, hn⟩ := h2.shape
 subst hv
 exact ⟨A, n, c, hn, h1, h2, blk_cell h1 0, blk_cell h1 1, blk_cell h1 2, blk_frozen h1 1, blk_frozen h1 2⟩
theorem ScAt.move (h : ScAt w B g s p o) (q : Nat) : ScAt (w.setCell ⟨g, 1, none⟩ (.int .i64 (q : Int))) B g s q o ∧ Fr w (w.setCell ⟨g, 1, none⟩ (.int .i64 (q : Int))) (· = g) := by
 obtain ⟨v, h1, h2⟩ := h.blk
 have hf : Fr w (w.setCell ⟨g, 1, none⟩ (.int .i64 (q : Int))) (· = g) := (Fr.refl w _).set1 (g := g) 1 _
 exact ⟨⟨v, blk_set h1 1 _, h2.fr hf (fun j hj => h2.ne_blk h1 (by decide) j hj)⟩, hf⟩
end
theorem ScAt.dmove {w : World} {B g : Nat} {s : ByteArray} {p : Nat} {o : List Int} {n : Nat} (h : ScAt w B g s p o) (q : Nat) :
  ScAt ((w.drewN n).setCell ⟨g, 1, none⟩ (.int .i64 (q : Int))) B g s q o ∧ Fr w ((w.drewN n).setCell ⟨g, 1, none⟩ (.int .i64 (q : Int))) (· = g) :=
 have h1 := (ScAt.drawn (w1 := w.drewN n) h ⟨_, rfl⟩).move q
 ⟨h1.1, (Fr.of_drawn ⟨_, rfl⟩ _).trans h1.2 (fun k _ h => h)⟩
set_option maxHeartbeats 1000000 in
theorem more_calls (w : World) (B g : Nat) (s : ByteArray) (p : Nat) (o : List Int) (h : ScAt w B g s p o) (hs : s.size ≤ 1000000) :
  Calls Try.prog 41 #[.pointer (some ⟨g, 0, none⟩)] w fun e w' => e = .returned (.tuple #[.int .u8 (if p < s.size then bt s (p : Int) else 0), .bool (decide (p < s.size))]) ∧ Drawn0 w w' := by
 obtain ⟨A, n, c, hn, hb, hr, c0, c1, c2, f1, f2⟩ := h.cells
 by_cases hlt : p < s.size
 ·have q1 : decide ((s.size : Int) ≤ (p : Int)) = false := decide_eq_false (by omega)
  have q1n : decide (s.size ≤ p) = false := decide_eq_false (by omega)
  rw [if_pos hlt, decide_eq_true hlt]
  have hx := nat_bt s p hlt
  have p1 : (0 : Int) ≤ (p : Int) := by omega
  have p2 : (p : Int) < (s.size : Int) := by omega
  clear hb hr hn f1 f2 h
  go_enter Try.func41, Try.ntmps41
  go_wp2_with fail
  go_quiet (fail)
  go_wp2_with fail
  go_quiet (fail)
  go_wp2_with fail
  go_returns
  exact ⟨rfl, ⟨_, World.drewN_drewN _ _ _⟩⟩
 ·have q1 : decide ((s.size : Int) ≤ (p : Int)) = true := decide_eq_true (by omega)
  have q1n : decide (s.size ≤ p) = true := decide_eq_true (by omega)
  rw [if_neg hlt, decide_eq_false hlt]
  clear hb hr hn f1 f2 h
  go_enter Try.func41, Try.ntmps41
  go_wp2_with fail
  go_quiet (fail)
  go_wp2_with fail
  go_returns
  exact ⟨rfl, ⟨_, rfl⟩⟩
theorem bad_calls (c : Int) (w : World) : Calls Try.prog 17 #[.int .i64 c] w fun e w' => e = .returned (.tuple #[.agg (tokC 0 0 ⟨#[]⟩ 0 0), .int .i64 c]) ∧ Below w.heap.size w w' :=
 Go.Proofs.Ytkmmmlbppobifaa.P15s.token_bad.calls c 0 0 ⟨#[]⟩ 0 0 c w rfl
theorem tok_one (kind n : Int) (t : ByteArray) (a b : Int) : (tokC kind n t a b).all (·.oneCell') = true := by simp [tokC, Value.oneCell']
theorem U8c.old {w w1 : World} {S : Nat → Prop} (h : Fr w w1 S) {k : Nat} (hk : k < w.heap.size) (hu : U8c w1 k) (hn : ¬ S k) : U8c w k := by
 obtain ⟨cs, fr, hc⟩ := hu
 exact ⟨cs, fr, (h.block k hk hn).symm.trans hc⟩
theorem Fr.sc {w w1 w2 : World} {B g : Nat} (h : Fr w w1 (SC B g w)) (k : Fr w1 w2 (SC B g w1)) : Fr w w2 (SC B g w) :=
 h.trans k (fun j hj hs => by
  by_cases hn : SC B g w j
  ·exact hn
  ·rcases hs with h1 | ⟨h1, h2⟩
   ·exact .inl h1
   ·exact .inr ⟨h1, U8c.old h hj h2 hn⟩)
theorem Fr.scG {w w1 w2 : World} {B g : Nat} (h : Fr w w1 (SC B g w)) (k : Fr w1 w2 (· = g)) : Fr w w2 (SC B g w) := h.sc (k.mono (fun _ _ h => .inl h))
theorem Fr.scB {w w1 w2 : World} {B g : Nat} (h : Fr w w1 (SC B g w)) (k : Below w1.heap.size w1 w2) : Fr w w2 (SC B g w) := h.then_ (Fr.of_below k _)
theorem Fr.scBelow {w w1 : World} {B g : Nat} (h : Fr w w1 (SC B g w)) (hg : B ≤ g) (hB : B ≤ w.heap.size) : Below B w w1 := h.below (by rintro k (rfl | h); exact hg; exact h.1) hB
theorem sc_blk {w w1 : World} {B g k : Nat} {cs : Array Value} {t : TypeId} (h : w.heap[k]? = some (.cells cs t (0, 0))) (ht : t ≠ 5) (hk : k ≠ g) (hf : Fr w w1 (SC B g w)) : w1.heap[k]? = some (.cells cs t (0, 0)) :=
 hf.blk h (by
  rintro (h1 | ⟨_, cs', fr', hc⟩)
  ·exact hk h1
  ·rw [h] at hc; injection hc with hc; injection hc with _ hc; exact ht hc)
structure Tz (w W : World) (B g z : Nat) (s : ByteArray) (p : Nat) (o : List Int) : Prop where
 sc : ScAt W B g s p o
 zb : W.heap[z]? = some (.cells (tokC 0 0 ⟨#[]⟩ 0 0) 24 (0, 0))
 fr : Fr w W (SC B g w)
 zw : w.heap.size ≤ z
 ne : z ≠ g
section
variable {w W W1 : World} {B g z : Nat} {s : ByteArray} {p : Nat} {o : List Int}
theorem ScAt.lt (h : ScAt w B g s p o) : g < w.heap.size := by
 obtain ⟨v, h1, _⟩ := h.blk
 exact blk_lt h1
theorem Tz.new (h : ScAt w B g s p o) : Tz w (w.alloc (.cells (tokC 0 0 ⟨#[]⟩ 0 0) 24)) B g w.heap.size s p o :=
 ⟨h.below (below_alloc (Below.refl _ _) _), heap_alloc_new w _, Fr.of_below (below_alloc (Below.refl _ _) _) _, Nat.le_refl _, by have := h.lt; omega⟩
theorem Tz.below (h : Tz w W B g z s p o) (hb : Below W.heap.size W W1) : Tz w W1 B g z s p o := ⟨h.sc.below hb, blk_below h.zb hb, h.fr.scB hb, h.zw, h.ne⟩
theorem Tz.drawn (h : Tz w W B g z s p o) (hd : Drawn0 W W1) : Tz w W1 B g z s p o := by
 obtain ⟨n, rfl⟩ := hd.out
 exact ⟨⟨h.sc.blk⟩, h.zb, h.fr.drewN n, h.zw, h.ne⟩
theorem Tz.move (h : Tz w W B g z s p o) (q : Nat) : Tz w (W.setCell ⟨g, 1, none⟩ (.int .i64 (q : Int))) B g z s q o :=
 ⟨(h.sc.move q).1, blk_far h.zb (p := ⟨g, 1, none⟩) (fun e => h.ne e) _, h.fr.scG (h.sc.move q).2, h.zw, h.ne⟩
theorem Tz.step {p' : Nat} {o' : List Int} (h : Tz w W B g z s p o) (h1 : ScAt W1 B g s p' o') (hf : Fr W W1 (SC B g W)) : Tz w W1 B g z s p' o' :=
 ⟨h1, sc_blk h.zb (by decide) h.ne hf, h.fr.sc hf, h.zw, h.ne⟩
theorem Tz.put (h : Tz w W B g z s p o) (cs : Array Value) : (W.setRow z cs).heap[z]? = some (.cells cs 24 (0, 0)) ∧ ScAt (W.setRow z cs) B g s p o ∧ Fr w (W.setRow z cs) (SC B g w) := by
 have hf : Fr W (W.setRow z cs) (· = z) := ⟨rfl, rfl, rfl, by simp, fun k _ hn => setRow_other _ _ _ _ (fun e => hn e)⟩
 refine ⟨setRow_heap _ _ _ _ _ _ h.zb, ?_, h.fr.trans hf (fun k hk e => by have := h.zw; subst e; omega)⟩
 obtain ⟨v, h1, h2⟩ := h.sc.blk
 exact ⟨v, hf.blk h1 (fun e => h.ne e.symm), h2.fr hf (fun j hj => h2.ne_blk h.zb (by decide) j hj)⟩
end
def TkPost (B g : Nat) (s : ByteArray) (w : World) (r : Int × Int × Int × ByteArray × Nat) (e : Ending) (w' : World) : Prop :=
 e = .returned (.tuple #[.agg (tokC r.2.1 r.2.2.1 r.2.2.2.1 0 0), .int .i64 r.1]) ∧ (∃ (p' : Nat) (o' : List Int), ScAt w' B g s p' o' ∧ (r.1 = 0 → p' = r.2.2.2.2)) ∧ Fr w w' (SC B g w)
theorem TkPost.mk_ {B g : Nat} {s : ByteArray} {w w' : World} {r : Int × Int × Int × ByteArray × Nat} {e : Ending} {p' : Nat} {o' : List Int} (he : e = .returned (.tuple #[.agg (tokC r.2.1 r.2.2.1 r.2.2.2.1 0 0), .int .i64 r.1])) (hs : ScAt w' B g s p' o') (hp : r.1 = 0 → p' = r.2.2.2.2) (hf : Fr w w' (SC B g w)) : TkPost B g s w r e w' := ⟨he, ⟨p', o', hs, hp⟩, hf⟩
set_option maxRecDepth 100000 in
set_option maxHeartbeats 1000000 in
theorem sign_calls (w : World) (B g : Nat) (s : ByteArray) (p : Nat) (o : List Int) (kind many : Nat) (h : ScAt w B g s p o) (hp : p ≤ 1000000) (hm : many ≤ 2) :
  Calls Try.prog 27 #[.pointer (some ⟨g, 0, none⟩), .int .i64 (kind : Int), .int .i64 (many : Int)] w (TkPost B g s w (0, kind, 0, ⟨#[]⟩, p + many)) := by
 have HT := Aside0.mk (Tz.new h)
 obtain ⟨z, hz⟩ : ∃ z, z = w.heap.size := ⟨_, rfl⟩
 obtain ⟨q, hq⟩ : ∃ q, q = p + many := ⟨_, rfl⟩
 have e1 : (p : Int) + (many : Int) = (q : Int) := by omega
 have HQ := Aside0.mk hq
 rw [← hq]
 clear h hq
 go_enter Try.func27, Try.ntmps27
 go_upto_region 1 with fail
 rw [← hz] at HT ⊢
 clear hz
 generalize World.alloc w _ = W0 at HT ⊢
 obtain ⟨A, n, c, hn, hb, hr, c0, c1, c2, f1, f2⟩ := HT.out.sc.cells
 have HM := Aside0.mk (HT.out.move q)
 clear hn hb hr c0 c2 f2
 go_upto_region 2 with fail
 generalize World.setCell W0 _ _ = W1 at HM ⊢
 have zb := HM.out.zb
 have HP := HM.out.put (tokC kind 0 ⟨#[]⟩ 0 0)
 clear HT c1 f1
 go_wp2_with (refine wpList_store_rowTo rfl 24 _ _ rfl rfl z (tokC kind 0 ⟨#[]⟩ 0 0) rfl rfl 24 _ zb tokInfo rfl (tok_one _ _ _ _ _) ?_)
 exact bodyPost_ret (results_ct rfl _ _ z 24 (tokC kind 0 ⟨#[]⟩ 0 0) (0, 0) _ rfl HP.1 Try.underlying24 rfl tokInfo) rfl (TkPost.mk_ rfl HP.2.1 (fun _ => rfl) HP.2.2)
theorem twice_calls (w : World) (B g : Nat) (s : ByteArray) (p : Nat) (o : List Int) (h : ScAt w B g s p o) (hs : s.size ≤ 1000000) (hp : p < s.size) :
  Calls Try.prog 30 #[.pointer (some ⟨g, 0, none⟩)] w fun e w' => e = .returned (.bool (decide (p + 1 < s.size ∧ bt s ((p + 1 : Nat) : Int) = bt s (p : Int)))) ∧ Drawn0 w w' := by
 obtain ⟨A, n, c, hn, hb, hr, c0, c1, c2, f1, f2⟩ := h.cells
 have hx := nat_bt s p hp
 have p1 : (0 : Int) ≤ (p : Int) := by omega
 have p2 : (p : Int) < (s.size : Int) := by omega
 have p3 : (0 : Int) ≤ (p : Int) + 1 := by omega
 have p4 : IntKind.i64.wrap ((p : Int) + 1) = (p : Int) + 1 := IntWalk.i64_in _ (by omega)
 by_cases hlt : p + 1 < s.size
 ·have q1 : decide ((p : Int) + 1 < (s.size : Int)) = true := decide_eq_true (by omega)
  have q1n : decide (p + 1 < s.size) = true := decide_eq_true (by omega)
  have p5 : (p : Int) + 1 < (s.size : Int) := by omega
  have hy := nat_bt s (p + 1) hlt
  have hr1 : decide (p + 1 < s.size ∧ bt s ((p + 1 : Nat) : Int) = bt s (p : Int)) = (bt s ((p + 1 : Nat) : Int) == bt s (p : Int)) := by
   rw [Bool.eq_iff_iff, decide_eq_true_iff, beq_iff_eq]; exact ⟨fun h => h.2, fun h => ⟨hlt, h⟩⟩
  rw [hr1]
  clear hb hr hn f1 f2 h hr1
  go_enter Try.func30, Try.ntmps30
  go_wp2_with fail
  go_quiet (fail)
  go_wp2_with fail
  go_returns
  exact ⟨rfl, ⟨_, rfl⟩⟩
 ·have q1 : decide ((p : Int) + 1 < (s.size : Int)) = false := decide_eq_false (by omega)
  have q1n : decide (p + 1 < s.size) = false := decide_eq_false (by omega)
  rw [decide_eq_false (fun h => hlt h.1)]
  clear hb hr hn f1 f2 h hlt
  go_enter Try.func30, Try.ntmps30
  go_wp2_with fail
  go_quiet (fail)
  go_wp2_with fail
  go_returns
  exact ⟨rfl, ⟨_, rfl⟩⟩
set_option maxRecDepth 100000 in
set_option maxHeartbeats 1000000 in
theorem told_calls (w : World) (B g : Nat) (s : ByteArray) (p : Nat) (o : List Int) (kind : Nat) (h : ScAt w B g s p o) (hk : kind ≤ 10) :
  Calls Try.prog 43 #[.pointer (some ⟨g, 0, none⟩), .int .i64 (kind : Int)] w (TkPost B g s w (0, kind, 0, strOfNums o, p)) := by
 have HT := Aside0.mk (Tz.new h)
 obtain ⟨z, hz⟩ : ∃ z, z = w.heap.size := ⟨_, rfl⟩
 obtain ⟨st, hst⟩ : ∃ st, st = strOfNums o := ⟨_, rfl⟩
 rw [← hst]
 have HST := Aside0.mk hst
 clear h hst
 go_enter Try.func43, Try.ntmps43
 go_upto_region 1 with fail
 rw [← hz] at HT ⊢
 clear hz
 generalize World.alloc w _ = W0 at HT ⊢
 obtain ⟨A, n, c, hn, hb, hr, c0, c1, c2, f1, f2⟩ := HT.out.sc.cells
 have k0 := hr.str (P := Try.prog) (src := 45) (dst := 9) Try.underlying45 Try.underlying5 Try.underlying9
 rw [← HST.out] at k0
 have zb := HT.out.zb
 have HP := HT.out.put (tokC kind 0 st 0 0)
 clear hn hb hr c0 c1 f2 f1
 go_wp2_with (refine wpList_store_rowTo rfl 24 _ _ rfl rfl z (tokC kind 0 st 0 0) rfl rfl 24 _ zb tokInfo rfl (tok_one _ _ _ _ _) ?_)
 exact bodyPost_ret (results_ct rfl _ _ z 24 (tokC kind 0 st 0 0) (0, 0) _ rfl HP.1 Try.underlying24 rfl tokInfo) rfl (TkPost.mk_ rfl HP.2.1 (fun _ => rfl) HP.2.2)
def escF (s : ByteArray) (p : Nat) : Option Int := if p + 1 < s.size then (if hexF (bt s (p : Int)) < 0 ∨ hexF (bt s ((p + 1 : Nat) : Int)) < 0 ∨ hexF (bt s (p : Int)) + hexF (bt s ((p + 1 : Nat) : Int)) = 0 then none else some (16 * hexF (bt s (p : Int)) + hexF (bt s ((p + 1 : Nat) : Int)))) else none
def EscPost (B g : Nat) (s : ByteArray) (p : Nat) (o : List Int) (w : World) (e : Ending) (w' : World) : Prop :=
 match escF s p with
 | some c => e = .returned (.tuple #[.int .u8 c, .bool true]) ∧ ScAt w' B g s (p + 2) o ∧ Fr w w' (· = g)
 | none => e = .returned (.tuple #[.int .u8 0, .bool false]) ∧ (∃ q, ScAt w' B g s q o) ∧ Fr w w' (· = g)
theorem shl4_or : ∀ a b : Fin 16, bits .or .i64 (((a.val : Nat) : Int) * 16) ((b.val : Nat) : Int) % 256 = 16 * ((a.val : Nat) : Int) + ((b.val : Nat) : Int) := by decide +kernel
set_option maxRecDepth 100000 in
set_option maxHeartbeats 2000000 in
theorem escaped_calls (w : World) (B g : Nat) (s : ByteArray) (p : Nat) (o : List Int) (h : ScAt w B g s p o) (hs : s.size ≤ 1000000) (hp : p ≤ s.size) :
  Calls Try.prog 42 #[.pointer (some ⟨g, 0, none⟩)] w (EscPost B g s p o w) := by
 obtain ⟨A, n, c, hn, hb, hr, c0, c1, c2, f1, f2⟩ := h.cells
 have H := Aside0.mk h
 by_cases hlt : p + 1 < s.size
 ·have q1 : decide ((s.size : Int) - (p : Int) < 2) = false := decide_eq_false (by omega)
  have hx := nat_bt s p (by omega)
  have hy := nat_bt s (p + 1) hlt
  have KA := Aside0.mk (fun W => hex_calls s (p : Int) W)
  have KB := Aside0.mk (fun W => hex_calls s ((p + 1 : Nat) : Int) W)
  have ha0 := hexF_range (bt s (p : Int))
  have hb0 := hexF_range (bt s ((p + 1 : Nat) : Int))
  have he : escF s p = if hexF (bt s (p : Int)) < 0 ∨ hexF (bt s ((p + 1 : Nat) : Int)) < 0 ∨ hexF (bt s (p : Int)) + hexF (bt s ((p + 1 : Nat) : Int)) = 0 then none else some (16 * hexF (bt s (p : Int)) + hexF (bt s ((p + 1 : Nat) : Int))) := if_pos hlt
  generalize hexF (bt s (p : Int)) = a at KA ha0 he
  generalize hexF (bt s ((p + 1 : Nat) : Int)) = b at KB hb0 he
  generalize bt s (p : Int) = x at hx KA
  generalize bt s ((p + 1 : Nat) : Int) = y at hy KB
  have p1 : (0 : Int) ≤ (p : Int) := by omega
  have p2 : (p : Int) < (s.size : Int) := by omega
  have p3 : (0 : Int) ≤ (p : Int) + 1 := by omega
  have p4 : IntKind.i64.wrap ((p : Int) + 1) = (p : Int) + 1 := IntWalk.i64_in _ (by omega)
  have p5 : (p : Int) + 1 < (s.size : Int) := by omega
  have HE := Aside0.mk he
  obtain ⟨q, hq⟩ : ∃ q, q = p + 2 := ⟨_, rfl⟩
  have e2 : (p : Int) + 2 = (q : Int) := by omega
  have HQ := Aside0.mk hq
  clear h hn hb hr c2 f2 he hq
  go_enter Try.func42, Try.ntmps42
  go_wp2_with fail
  go_quiet (fail)
  go_wp2_with fail
  go_quiet (first | (go_at_call 46; (with_reducible refine (KA.out _).mono ?_); rintro e w' ⟨rfl, ⟨nd, rfl⟩⟩; (try first | exact ⟨rfl, _, World.drewN_drewN _ _ _⟩ | exact ⟨rfl, _, Eq.trans (World.drewN_drewN _ _ _) (congrArg (World.drewN _) (Nat.add_assoc _ _ _))⟩)) | (go_at_call 46; (with_reducible refine (KB.out _).mono ?_); rintro e w' ⟨rfl, ⟨nd, rfl⟩⟩; (try first | exact ⟨rfl, _, World.drewN_drewN _ _ _⟩ | exact ⟨rfl, _, Eq.trans (World.drewN_drewN _ _ _) (congrArg (World.drewN _) (Nat.add_assoc _ _ _))⟩)))
  clear KA KB hx hy c0 p1 p2 p3 p4 p5
  by_cases ha : a < 0
  ·have s1 : decide (a < 0) = true := decide_eq_true ha
   go_wp2_with fail
   go_returns
   unfold EscPost
   rw [HE.out, if_pos (.inl ha)]
   exact ⟨rfl, ⟨q, (H.out.dmove q).1⟩, (H.out.dmove q).2⟩
  ·have s1 : decide (a < 0) = false := decide_eq_false ha
   by_cases hb : b < 0
   ·have s2 : decide (b < 0) = true := decide_eq_true hb
    go_wp2_with fail
    go_returns
    unfold EscPost
    rw [HE.out, if_pos (.inr (.inl hb))]
    exact ⟨rfl, ⟨q, (H.out.dmove q).1⟩, (H.out.dmove q).2⟩
   ·have s2 : decide (b < 0) = false := decide_eq_false hb
    by_cases hab : a + b = 0
    ·have s3 : (a + b == 0) = true := beq_iff_eq.2 hab
     go_wp2_with fail
     go_returns
     unfold EscPost
     rw [HE.out, if_pos (.inr (.inr hab))]
     exact ⟨rfl, ⟨q, (H.out.dmove q).1⟩, (H.out.dmove q).2⟩
    ·have s3 : (a + b == 0) = false := beq_false_of_ne hab
     go_wp2_with fail
     go_returns
     unfold EscPost
     rw [HE.out, if_neg (by omega)]
     obtain ⟨am, ham⟩ := Int.eq_ofNat_of_zero_le (show 0 ≤ a by omega)
     obtain ⟨bm, hbm⟩ := Int.eq_ofNat_of_zero_le (show 0 ≤ b by omega)
     subst ham hbm
     have ho := shl4_or ⟨am, by omega⟩ ⟨bm, by omega⟩
     dsimp only at ho
     refine ⟨?_, by rw [← HQ.out]; exact (H.out.dmove q).1, (H.out.dmove q).2⟩
     rw [← ho]
     rfl
 ·have q1 : decide ((s.size : Int) - (p : Int) < 2) = true := decide_eq_true (by omega)
  have he : escF s p = none := if_neg hlt
  clear h hn hb hr c2 f1 f2
  go_enter Try.func42, Try.ntmps42
  go_wp2_with fail
  go_quiet (fail)
  go_wp2_with fail
  go_returns
  unfold EscPost
  rw [he]
  exact ⟨rfl, ⟨p, H.out.drawn ⟨_, rfl⟩⟩, Fr.of_drawn ⟨_, rfl⟩ _⟩
def octF (s : ByteArray) : Nat → Nat → Int → Nat × Int
 | 0, p, n => (p, n)
 | k + 1, p, n => if p < s.size ∧ 48 ≤ bt s (p : Int) ∧ bt s (p : Int) ≤ 55 then octF s k (p + 1) (8 * n + (bt s (p : Int) - 48)) else (p, n)
theorem shl3_or : ∀ (a : Fin 64) (b : Fin 8), bits .or .i64 (((a.val : Nat) : Int) * 8) ((b.val : Nat) : Int) = 8 * ((a.val : Nat) : Int) + ((b.val : Nat) : Int) := by decide +kernel
theorem shl3_or' (n c : Int) (hn : 0 ≤ n ∧ n < 64) (hc : 48 ≤ c ∧ c ≤ 55) : bits .or .i64 (n * 8) (c - 48) = 8 * n + (c - 48) := by
 obtain ⟨am, ham⟩ := Int.eq_ofNat_of_zero_le hn.1
 obtain ⟨bm, hbm⟩ := Int.eq_ofNat_of_zero_le (show 0 ≤ c - 48 by omega)
 rw [ham, hbm]
 exact shl3_or ⟨am, by omega⟩ ⟨bm, by omega⟩
structure ScV (w : World) (B g : Nat) (s : ByteArray) (p : Nat) (A : Option Addr) (n c : Nat) (o : List Int) : Prop where
 blk : w.heap[g]? = some (.cells #[.string s, .int .i64 (p : Int), .slice A n c] 47 (0, 0))
 row : Row w B 5 .u8 (.slice A n c) o
section
variable {w w1 : World} {B g : Nat} {s : ByteArray} {p : Nat} {A : Option Addr} {n c : Nat} {o : List Int}
theorem ScV.sc (h : ScV w B g s p A n c o) : ScAt w B g s p o := ⟨_, h.blk, h.row⟩
theorem ScV.drawn (h : ScV w B g s p A n c o) (hd : Drawn0 w w1) : ScV w1 B g s p A n c o := by
 obtain ⟨m, rfl⟩ := hd.out
 exact ⟨h.blk, h.row⟩
theorem ScV.cells (h : ScV w B g s p A n c o) : w.cell? ⟨g, 1, none⟩ = some (.int .i64 (p : Int)) ∧ w.frozen? ⟨g, 1, none⟩ = false := ⟨blk_cell h.blk 1, blk_frozen h.blk 1⟩
theorem ScV.move (h : ScV w B g s p A n c o) (q : Nat) : ScV (w.setCell ⟨g, 1, none⟩ (.int .i64 (q : Int))) B g s q A n c o ∧ Fr w (w.setCell ⟨g, 1, none⟩ (.int .i64 (q : Int))) (· = g) := by
 have hf : Fr w (w.setCell ⟨g, 1, none⟩ (.int .i64 (q : Int))) (· = g) := (Fr.refl w _).set1 (g := g) 1 _
 exact ⟨⟨blk_set h.blk 1 _, h.row.fr hf (fun j hj => h.row.ne_blk h.blk (by decide) j hj)⟩, hf⟩
end
set_option maxRecDepth 100000 in
set_option maxHeartbeats 2000000 in
theorem octal_calls (w : World) (B g : Nat) (s : ByteArray) (p : Nat) (A : Option Addr) (n0 cp : Nat) (o : List Int) (h : ScV w B g s p A n0 cp o) (hs : s.size ≤ 1000000) (hp : p ≤ s.size) :
  Calls Try.prog 49 #[.pointer (some ⟨g, 0, none⟩)] w fun e w' => e = .returned (.int .u8 ((octF s 3 p 0).2 % 256)) ∧ ScV w' B g s (octF s 3 p 0).1 A n0 cp o ∧ Fr w w' (· = g) := by
 obtain ⟨res, hres⟩ : ∃ res, res = octF s 3 p 0 := ⟨_, rfl⟩
 rw [← hres]
 have HRES := Aside0.mk hres
 have H := Aside0.mk h
 clear h hres
 go_enter Try.func49, Try.ntmps49
 go_wp2_with fail
 go_loopg [3, 6] 3 (fun kq v3 v6 wr => ∃ (q j : Nat) (n : Int), v3 = .int .i64 n ∧ v6 = .int .i64 (j : Int) ∧ j + kq = 3 ∧ 0 ≤ n ∧ n < 8 ^ j ∧ q ≤ s.size ∧ Aside0 (ScV wr B g s q A n0 cp o) ∧ Aside0 (Fr w wr (· = g)) ∧ Aside0 (res = octF s kq q n))
 case atStart => exact ⟨p, 0, 0, rfl, rfl, rfl, by decide, by decide, hp, H, ⟨Fr.refl _ _⟩, HRES⟩
 case round =>
  clear HRES H
  obtain ⟨q, j, n, rfl, rfl, hj, hn0, hn1, hq, HS, HF, HR⟩ := hrel
  cases gk with
  | zero =>
   obtain rfl : j = 3 := by omega
   have hr := HR.out
   rw [octF] at hr
   subst hr
   go_wp2_with fail
   go_returns
   exact ⟨rfl, HS.out, HF.out⟩
  | succ k1 =>
   have hj3 : j < 3 := by omega
   have q1 : decide ((j : Int) < 3) = true := decide_eq_true (by omega)
   have q1n : decide (j < 3) = true := decide_eq_true hj3
   have hr := HR.out
   rw [octF] at hr
   have KM := more_calls wr B g s q o HS.out.sc hs
   by_cases hlt : q < s.size
   ·rw [if_pos hlt, decide_eq_true hlt] at KM
    have hcr := bt_range s (q : Int)
    obtain ⟨c, hc⟩ : ∃ c, c = bt s (q : Int) := ⟨_, rfl⟩
    rw [← hc] at KM hr hcr
    have HKM := Aside0.mk KM
    have HR2 := Aside0.mk hr
    clear KM hr hc
    by_cases h48 : 48 ≤ c
    ·have s1 : decide (c < 48) = false := decide_eq_false (by omega)
     by_cases h55 : c ≤ 55
     ·have s2 : decide (55 < c) = false := decide_eq_false (by omega)
      have hr := HR2.out
      rw [if_pos ⟨hlt, h48, h55⟩] at hr
      have hn64 : n < 64 := by
       have h2 : j = 0 ∨ j = 1 ∨ j = 2 := by omega
       rcases h2 with rfl | rfl | rfl <;> simp at hn1 <;> omega
      have ho := shl3_or' n c ⟨hn0, hn64⟩ ⟨h48, h55⟩
      have hc48 : IntKind.u8.wrap (c - 48) = c - 48 := by rw [IntKind.wrap_u8]; omega
      have hn8 : IntKind.i64.wrap (n * 8) = n * 8 := IntWalk.i64_in _ (by omega)
      obtain ⟨m, hm⟩ : ∃ m, m = 8 * n + (c - 48) := ⟨_, rfl⟩
      have hm0 : 0 ≤ m ∧ m < 8 ^ (j + 1) := by rw [hm, Int.pow_succ]; omega
      rw [← hm] at ho hr
      obtain ⟨q2, hq2⟩ : ∃ q2, q2 = q + 1 := ⟨_, rfl⟩
      rw [← hq2] at hr
      have e2 : (q : Int) + 1 = (q2 : Int) := by omega
      have HQ := Aside0.mk hq2
      have HR3 := Aside0.mk hr
      clear hr hm hq2 HR2 HR
      go_wp2_with fail
      refine HKM.out.mono ?_
      rintro e w1 ⟨rfl, hd⟩
      have HS1 := Aside0.mk (HS.out.drawn hd)
      have HF1 := Aside0.mk (HF.out.then_ (Fr.of_drawn hd _))
      obtain ⟨c1, f1⟩ := HS1.out.cells
      have HM := Aside0.mk (HS1.out.move q2)
      clear hd HKM
      go_wp2_with fail
      go_roundg k1
      case measure => omega
      case rel => exact ⟨q2, j + 1, m, rfl, by go_num, by omega, hm0.1, hm0.2, by have := HQ.out; omega, ⟨HM.out.1⟩, ⟨HF1.out.trans HM.out.2 (fun k _ h => h)⟩, HR3⟩
     ·have s2 : decide (55 < c) = true := decide_eq_true (by omega)
      have hr := HR2.out
      rw [if_neg (fun h => h55 h.2.2)] at hr
      subst hr
      go_wp2_with fail
      refine HKM.out.mono ?_
      rintro e w1 ⟨rfl, hd⟩
      go_wp2_with fail
      go_returns
      exact ⟨rfl, HS.out.drawn hd, HF.out.then_ (Fr.of_drawn hd _)⟩
    ·have s1 : decide (c < 48) = true := decide_eq_true (by omega)
     have hr := HR2.out
     rw [if_neg (fun h => h48 h.2.1)] at hr
     subst hr
     go_wp2_with fail
     refine HKM.out.mono ?_
     rintro e w1 ⟨rfl, hd⟩
     go_wp2_with fail
     go_returns
     exact ⟨rfl, HS.out.drawn hd, HF.out.then_ (Fr.of_drawn hd _)⟩
   ·rw [if_neg hlt, decide_eq_false hlt] at KM
    rw [if_neg (fun h => hlt h.1)] at hr
    subst hr
    have HKM := Aside0.mk KM
    clear KM
    go_wp2_with fail
    refine HKM.out.mono ?_
    rintro e w1 ⟨rfl, hd⟩
    go_wp2_with fail
    go_returns
    exact ⟨rfl, HS.out.drawn hd, HF.out.then_ (Fr.of_drawn hd _)⟩
end Go.Proofs.Ytkmmmlbppobifaa.Hand
