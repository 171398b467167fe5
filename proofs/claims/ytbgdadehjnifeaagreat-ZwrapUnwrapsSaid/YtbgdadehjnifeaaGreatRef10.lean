/- The document's inflate: its state by value; bits, symbol, fail; walked by hand. -/
import Derived.Test.YtbgdadehjnifeaaGreatHand10m
import Derived.Test.YtbgdadehjnifeaaGreatLem09r
import Derived.Test.YtbgdadehjnifeaaGreatP09rx1
import Derived.Test.YtbgdadehjnifeaaGreatP09rx2
import Derived.Test.YtbgdadehjnifeaaGreatP10nx1
import Derived.Great.BuildSlice
import Derived.Laws.CopyOwn
namespace Go.Proofs.YtbgdadehjnifeaaGreat.Hand
open Go.RowKit Go.Proofs.YtbgdadehjnifeaaGreatW.PrintWords Go.Proofs.YtbgdadehjnifeaaGreatW.PrintLast Go.Proofs.YtbgdadehjnifeaaGreatW.PrintMore Go.Proofs.YtbgdadehjnifeaaGreat.Num Go.Proofs.YtbgdadehjnifeaaGreat.Bits Go.Proofs.YtbgdadehjnifeaaGreat.P08 Go.Proofs.YtbgdadehjnifeaaGreat.P09r Go.Proofs.YtbgdadehjnifeaaGreat.P10n
set_option linter.unusedVariables false
set_option linter.unusedSimpArgs false
theorem infoState : (Tryz.prog.info? 53).map (·.size) = some 6 := by kernel_rfl
def rbits (s : ByteArray) (p : Nat) (c : Int) (w : Nat) : Nat × Int × Int := if c = 0 then (if p + w ≤ 8 * s.size then (p + w, 0, val s p w) else (p, 5, 0)) else (p, c, 0)
def rsym (s : ByteArray) (p : Nat) (c : Int) (l : List Int) : Nat × Int × Int := if c = 0 then ((rdS s l p).2.2, (rdS s l p).2.1, (rdS s l p).1) else (p, c, 0)
def rfail (c : Int) (b : Bool) (e : Int) : Int := if b = true ∧ c = 0 then e else c
theorem rsread (w : World) (A1 A2 A3 : Option Addr) (c1 c2 c3 : Nat) (l : List Int) (s : ByteArray) (p : Nat) (hm : mayF l = 0) (hr1 : ReadsInt w .i64 A1 l.length l) (hr2 : ReadsInt w .i64 A2 (codesF l).length (codesF l)) (hr3 : ReadsInt w .i64 A3 (flat (bytesOf s)).length (flat (bytesOf s)))
  (hc1 : l.length ≤ c1) (hc2 : (codesF l).length ≤ c2) (hc3 : (flat (bytesOf s)).length ≤ c3) (hs : s.size ≤ 1000000) (hp : p ≤ 8 * s.size) :
  Calls Tryz.prog 78 #[.slice A1 l.length c1, .slice A2 (codesF l).length c2, .slice A3 (flat (bytesOf s)).length c3, .int .i64 (p : Int)] w fun e w' =>
   e = .returned (.tuple #[.int .i64 (rdS s l p).1, .int .i64 ((rdS s l p).2.2 : Nat), .int .i64 (rdS s l p).2.1]) ∧ Below w.heap.size w w' := by
 obtain ⟨lg, hlg, h15⟩ := lgA_nat l
 obtain ⟨k, hk⟩ := (refread_ev hm s hs lg hlg p hp (r := rdS s l p) (by unfold rdS; rw [hlg, Int.toNat_natCast])).rounds
 exact binderyref09_Read.calls k A1 c1 l A2 c2 (codesF l) A3 c3 _ p _ _ _ w (kdC_reads hr1) hc1 (kdC_reads hr2) hc2 (kdC_reads hr3) hc3 hk
theorem rget_f (s : ByteArray) (hs : s.size ≤ 1000000) (p : Nat) (hp : p ≤ 8 * s.size) (w : Nat) (hw : w ≤ 16) : ∃ k, binderyref08_Get.f k s p w = some ((rbits s p 0 w).2.2, ((rbits s p 0 w).1 : Int), (rbits s p 0 w).2.1) := by
 unfold rbits
 rw [if_pos rfl]
 by_cases h2 : p + w ≤ 8 * s.size
 ·rw [if_pos h2]
  have h := get_l s hs p w hw h2 w (Nat.le_refl _)
  rw [Nat.sub_self, val] at h
  have h3 : Ev (fun q => binderyref08_Get.f q s p w) (val s p w, ((p + w : Nat) : Int), 0) := by
   refine ev_step h (fun q => ?_)
   unfold binderyref08_Get.f
   rw [if_neg (by omega), decide_eq_false (by omega)]
   simp only [binderyref08_Get.j0]
   rw [if_neg (by decide), w64 (x := 8 * (s.size : Int)) (by omega) (by omega), w64 (x := 8 * (s.size : Int) - (p : Int)) (by omega) (by omega), if_neg (by omega), w64 (by omega) (by omega)]
  exact h3.rounds
 ·rw [if_neg h2]
  refine ⟨1, ?_⟩
  unfold binderyref08_Get.f
  rw [if_neg (by omega), decide_eq_false (by omega)]
  simp only [binderyref08_Get.j0]
  rw [if_neg (by decide), w64 (x := 8 * (s.size : Int)) (by omega) (by omega), w64 (x := 8 * (s.size : Int) - (p : Int)) (by omega) (by omega), if_pos (by omega)]
theorem fr_setRow (w : World) (g : Nat) (cs : Array Value) : Fr w (w.setRow g cs) (· = g) := ⟨rfl, rfl, rfl, by simp, fun k _ hn => setRow_other w g k cs hn⟩
section
variable {W : World} {g : Nat} {a b p o m c : Value} {t : TypeId}
theorem st_set2 (h : W.heap[g]? = some (.cells #[a, b, p, o, m, c] t (0, 0))) (u : Value) : (W.setCell ⟨g, 2, none⟩ u).heap[g]? = some (.cells #[a, b, u, o, m, c] t (0, 0)) := (blk_set h 2 u).trans rfl
theorem st_set5 (h : W.heap[g]? = some (.cells #[a, b, p, o, m, c] t (0, 0))) (u : Value) : (W.setCell ⟨g, 5, none⟩ u).heap[g]? = some (.cells #[a, b, p, o, m, u] t (0, 0)) := (blk_set h 5 u).trans rfl
end
theorem st_one (s : ByteArray) (Ab Ao : Option Addr) (nb cb no co : Nat) (p m c : Int) : (#[.string s, .slice Ab nb cb, .int .i64 p, .slice Ao no co, .int .i64 m, .int .i64 c] : Array Value).all (·.oneCell') = true := by simp [Value.oneCell']
theorem heap_alloc2_both (w : World) (o1 o2 : Obj) : ((w.alloc o1).alloc o2).heap[w.heap.size]? = some o1 ∧ ((w.alloc o1).alloc o2).heap[w.heap.size + 1]? = some o2 ∧ Below w.heap.size w ((w.alloc o1).alloc o2) := ⟨heap_alloc2_old _ _ _, heap_alloc2_new _ _ _, below_alloc (below_alloc (Below.refl _ _) _) _⟩
set_option maxRecDepth 100000 in
set_option maxHeartbeats 2000000 in
theorem rbits_calls (w : World) (s : ByteArray) (Ab Ao : Option Addr) (nb cb no co : Nat) (p wd : Nat) (m c : Int) (hs : s.size ≤ 1000000) (hp : p ≤ 8 * s.size) (hw : wd ≤ 16) :
  Calls Tryz.prog 27 #[.agg #[.string s, .slice Ab nb cb, .int .i64 (p : Int), .slice Ao no co, .int .i64 m, .int .i64 c], .int .i64 (wd : Int)] w fun e w' =>
   e = .returned (.tuple #[.agg #[.string s, .slice Ab nb cb, .int .i64 ((rbits s p c wd).1 : Int), .slice Ao no co, .int .i64 m, .int .i64 (rbits s p c wd).2.1], .int .i64 (rbits s p c wd).2.2]) ∧ Below w.heap.size w w' := by
 by_cases h : c = 0
 ·subst h
  obtain ⟨k, hk⟩ := rget_f s hs p hp wd hw
  obtain ⟨r, hr⟩ : ∃ r, r = rbits s p 0 wd := ⟨_, rfl⟩
  rw [← hr] at hk ⊢
  have KG := Aside0.mk (fun W => binderyref08_Get.calls k s p wd _ _ _ W hk)
  clear hk hr
  have q0 : ((0 : Int) != 0) = false := rfl
  go_enter Tryz.func27, Tryz.ntmps27
  go_wp2_with fail
  refine (KG.out _).mono ?_
  rintro e w1 ⟨rfl, hd⟩
  obtain ⟨nd, rfl⟩ := hd.out
  clear hd
  obtain ⟨x0, z0, b0⟩ := heap_alloc2_both w (.cells #[.string s, .slice Ab nb cb, .int .i64 (p : Int), .slice Ao no co, .int .i64 m, .int .i64 0] 53) (.cells #[.string ⟨#[]⟩, .slice none 0 0, .int .i64 0, .slice none 0 0, .int .i64 0, .int .i64 0] 53)
  have x1 := blk_drewN x0 nd
  have z1 := blk_drewN z0 nd
  have b1 := pw_below_drewN b0 nd
  clear x0 z0 b0
  generalize World.drewN _ nd = W at x1 z1 b1 ⊢
  have c0 : W.cell? ⟨w.heap.size, 2, none⟩ = some (.int .i64 (p : Int)) := blk_cell x1 2
  have c1 : W.cell? ⟨w.heap.size, 5, none⟩ = some (.int .i64 0) := blk_cell x1 5
  have f0 := blk_frozen x1 2
  have f1 := blk_frozen x1 5
  have X2 := Aside0.mk (st_set5 (st_set2 x1 (.int .i64 (r.1 : Int))) (.int .i64 r.2.1))
  have Z2 := Aside0.mk (blk_far (blk_far z1 (show w.heap.size + 1 ≠ (⟨w.heap.size, 2, none⟩ : Addr).block by simp) (.int .i64 (r.1 : Int))) (show w.heap.size + 1 ≠ (⟨w.heap.size, 5, none⟩ : Addr).block by simp) (.int .i64 r.2.1))
  have B2 := Aside0.mk ((b1.setCell (p := ⟨w.heap.size, 2, none⟩) (Nat.le_refl _) (.int .i64 (r.1 : Int))).setCell (p := ⟨w.heap.size, 5, none⟩) (Nat.le_refl _) (.int .i64 r.2.1))
  clear x1 z1 b1
  go_wp2_with (first | (refine wpList_load_row rfl 53 _ rfl w.heap.size rfl 53 _ (0, 0) _ X2.out Tryz.underlying53 rfl infoState ?_) | (refine wpList_store_rowTo rfl 53 _ _ rfl rfl (w.heap.size + 1) #[.string s, .slice Ab nb cb, .int .i64 (r.1 : Int), .slice Ao no co, .int .i64 m, .int .i64 r.2.1] rfl rfl 53 _ Z2.out infoState rfl (st_one _ _ _ _ _ _ _ _ _ _) ?_))
  have hz := setRow_heap _ _ _ #[.string s, .slice Ab nb cb, .int .i64 (r.1 : Int), .slice Ao no co, .int .i64 m, .int .i64 r.2.1] _ _ Z2.out
  refine bodyPost_ret (results_ct rfl _ _ (w.heap.size + 1) 53 #[.string s, .slice Ab nb cb, .int .i64 (r.1 : Int), .slice Ao no co, .int .i64 m, .int .i64 r.2.1] (0, 0) _ rfl hz Tryz.underlying53 rfl infoState) ?_ ?_
  ·rfl
  ·exact ⟨rfl, below_setRow B2.out (by omega) _⟩
 ·have q0 : (c != 0) = true := bne_iff_ne.2 h
  have hb : rbits s p c wd = (p, c, 0) := if_neg h
  rw [hb]
  clear hb h
  go_enter Tryz.func27, Tryz.ntmps27
  go_wp2_with fail
  exact bodyPost_ret (results_ct rfl _ _ (w.heap.size + 1) 53 #[.string s, .slice Ab nb cb, .int .i64 (p : Int), .slice Ao no co, .int .i64 m, .int .i64 c] (0, 0) _ rfl (heap_alloc2_new _ _ _) Tryz.underlying53 rfl infoState) rfl ⟨rfl, below_alloc (below_alloc (Below.refl _ _) _) _⟩
set_option maxRecDepth 100000 in
set_option maxHeartbeats 2000000 in
theorem rfail_calls (w : World) (s : ByteArray) (Ab Ao : Option Addr) (nb cb no co : Nat) (p : Nat) (m c e0 : Int) (b : Bool) :
  Calls Tryz.prog 28 #[.agg #[.string s, .slice Ab nb cb, .int .i64 (p : Int), .slice Ao no co, .int .i64 m, .int .i64 c], .bool b, .int .i64 e0] w fun e w' =>
   e = .returned (.agg #[.string s, .slice Ab nb cb, .int .i64 (p : Int), .slice Ao no co, .int .i64 m, .int .i64 (rfail c b e0)]) ∧ Below w.heap.size w w' := by
 cases b with
 | false =>
  have hb : rfail c false e0 = c := if_neg (by simp)
  rw [hb]
  clear hb
  go_enter Tryz.func28, Tryz.ntmps28
  go_wp2_with fail
  exact bodyPost_ret (results_cell_row Tryz.results28 _ _ (w.heap.size + 1) 53 #[.string s, .slice Ab nb cb, .int .i64 (p : Int), .slice Ao no co, .int .i64 m, .int .i64 c] (0, 0) _ rfl (heap_alloc2_new _ _ _) Tryz.underlying53 rfl infoState) rfl ⟨rfl, below_alloc (below_alloc (Below.refl _ _) _) _⟩
 | true =>
  by_cases h : c = 0
  ·subst h
   have hb : rfail 0 true e0 = e0 := if_pos ⟨rfl, rfl⟩
   rw [hb]
   clear hb
   go_enter Tryz.func28, Tryz.ntmps28
   go_wp2_with fail
   exact bodyPost_ret (results_cell_row Tryz.results28 _ _ (w.heap.size + 1) 53 #[.string s, .slice Ab nb cb, .int .i64 (p : Int), .slice Ao no co, .int .i64 m, .int .i64 e0] (0, 0) _ rfl (heap_alloc2_new _ _ _) Tryz.underlying53 rfl infoState) rfl ⟨rfl, below_alloc (below_alloc (Below.refl _ _) _) _⟩
  ·have q0 : (c == 0) = false := beq_false_of_ne h
   have hb : rfail c true e0 = c := if_neg (fun hh => h hh.2)
   rw [hb]
   clear hb h
   go_enter Tryz.func28, Tryz.ntmps28
   go_wp2_with fail
   exact bodyPost_ret (results_cell_row Tryz.results28 _ _ (w.heap.size + 1) 53 #[.string s, .slice Ab nb cb, .int .i64 (p : Int), .slice Ao no co, .int .i64 m, .int .i64 c] (0, 0) _ rfl (heap_alloc2_new _ _ _) Tryz.underlying53 rfl infoState) rfl ⟨rfl, below_alloc (below_alloc (Below.refl _ _) _) _⟩
theorem Row.head {W : World} {B : Nat} {e : TypeId} {k : IntKind} {ad : Addr} {n c : Nat} {xs : List Int} (h : Row W B e k (.slice (some ad) n c) xs) : ∃ g, ad = ⟨g, 0, none⟩ := by
 rcases h.2 with ⟨hv, _⟩ | ⟨g, cap, cur, hv, _⟩
 ·cases hv
 ·injection hv with hv; injection hv with hv; exact ⟨g, hv⟩
structure RdI (w : World) (A : Option Addr) (c : Nat) (xs : List Int) : Prop where
 reads : ReadsInt w .i64 A xs.length xs
 cap : xs.length ≤ c
 typed : 0 < xs.length → ∀ ad, A = some ad → ∃ cs fr, w.heap[ad.block]? = some (.cells cs 3 fr)
theorem RdI.fr {w w1 : World} {S : Nat → Prop} {A : Option Addr} {c : Nat} {xs : List Int} (h : RdI w A c xs) (hf : Fr w w1 S) (hS : ∀ k, S k → ∀ cs fr, w.heap[k]? ≠ some (.cells cs 3 fr)) : RdI w1 A c xs := by
 have key : 0 < xs.length → ∀ ad, A = some ad → w1.heap[ad.block]? = w.heap[ad.block]? := fun h0 ad ha => by
  obtain ⟨cs, fr, hb⟩ := h.typed h0 ad ha
  exact hf.block _ (blk_lt hb) (fun hs => hS _ hs cs fr hb)
 refine ⟨⟨h.reads.1, h.reads.2.1, fun h0 => ?_⟩, h.cap, fun h0 ad ha => ?_⟩
 ·obtain ⟨ad, ha, hc⟩ := h.reads.2.2 h0
  refine ⟨ad, ha, fun j hj => ?_⟩
  have hbk : (ad.add j).block = ad.block := by unfold Addr.add; split <;> rfl
  rw [← hc j hj]
  exact World.cell?_of_block (by rw [hbk]; exact key h0 ad ha)
 ·obtain ⟨cs, fr, hb⟩ := h.typed h0 ad ha
  exact ⟨cs, fr, (key h0 ad ha).trans hb⟩
theorem RdI.below {w w1 : World} {A : Option Addr} {c : Nat} {xs : List Int} (h : RdI w A c xs) (hb : Below w.heap.size w w1) : RdI w1 A c xs :=
 h.fr (S := fun _ => False) ⟨hb.os, hb.tape, hb.output, hb.size, fun k hk _ => hb.block k hk⟩ (fun _ h => h.elim)
theorem RdI.row {w : World} {B : Nat} {A : Option Addr} {n c : Nat} {xs : List Int} (h : Row w B 3 .i64 (.slice A n c) xs) : RdI w A c xs := by
 obtain ⟨A', c', h1, h2⟩ := h.reads
 injection h1 with h1 h3 h4
 subst h1 h3 h4
 refine ⟨h2, ?_, fun h0 ad ha => ?_⟩
 ·rcases h.2 with ⟨hv, hx⟩ | ⟨g, cap', cur, hv, h5, h6, h7, h8⟩
  ·injection hv with _ h9 h10; omega
  ·injection hv with _ _ h10; omega
 ·subst ha
  rcases h.2 with ⟨hv, _⟩ | ⟨g, cap', cur, hv, h5, h6, h7⟩
  ·cases hv
  ·injection hv with hv _ _
   injection hv with hv
   subst hv
   exact ⟨_, _, h6⟩
def S8 (B : Nat) (w : World) (k : Nat) : Prop := B ≤ k ∧ U8 w k
theorem Fr.s8 {w w1 w2 : World} {B : Nat} (h : Fr w w1 (S8 B w)) (k : Fr w1 w2 (S8 B w1)) : Fr w w2 (S8 B w) :=
 h.trans k (fun j hj hs => by
  by_cases hn : S8 B w j
  ·exact hn
  ·exact ⟨hs.1, U8.old h hj hs.2 hn⟩)
theorem RdI.s8 {w w1 : World} {B : Nat} {A : Option Addr} {c : Nat} {xs : List Int} (h : RdI w A c xs) (hf : Fr w w1 (S8 B w)) : RdI w1 A c xs :=
 h.fr hf (fun k hk cs fr hb => by
  obtain ⟨cs', fr', hc⟩ := hk.2
  rw [hb] at hc
  injection hc with hc
  injection hc with _ hc
  exact absurd hc (by decide))
theorem s8_blk {w w1 : World} {B g : Nat} {cs : Array Value} {t : TypeId} (h : w.heap[g]? = some (.cells cs t (0, 0))) (ht : t ≠ 5) (hf : Fr w w1 (S8 B w)) : w1.heap[g]? = some (.cells cs t (0, 0)) :=
 hf.blk h (fun hs => by
  obtain ⟨cs', fr', hc⟩ := hs.2
  rw [h] at hc
  injection hc with hc
  injection hc with _ hc
  exact ht hc)
set_option maxRecDepth 100000 in
set_option maxHeartbeats 2000000 in
theorem rsymbol_calls (w : World) (s : ByteArray) (Ab Ao Al Ac : Option Addr) (cb no co cl cc : Nat) (l : List Int) (p : Nat) (m c : Int) (hs : s.size ≤ 1000000) (hp : p ≤ 8 * s.size) (hm : mayF l = 0) (hB : RdI w Ab cb (flat (bytesOf s))) (hL : RdI w Al cl l) (hC : RdI w Ac cc (codesF l)) :
  Calls Tryz.prog 47 #[.agg #[.string s, .slice Ab (flat (bytesOf s)).length cb, .int .i64 (p : Int), .slice Ao no co, .int .i64 m, .int .i64 c], .slice Al l.length cl, .slice Ac (codesF l).length cc] w fun e w' =>
   e = .returned (.tuple #[.agg #[.string s, .slice Ab (flat (bytesOf s)).length cb, .int .i64 ((rsym s p c l).1 : Int), .slice Ao no co, .int .i64 m, .int .i64 (rsym s p c l).2.1], .int .i64 (rsym s p c l).2.2]) ∧ Below w.heap.size w w' := by
 by_cases h : c = 0
 ·subst h
  have hr0 : rsym s p 0 l = ((rdS s l p).2.2, (rdS s l p).2.1, (rdS s l p).1) := if_pos rfl
  have KG := Aside0.mk (fun W (hb : Below w.heap.size w W) => rsread W Al Ac Ab cl cc cb l s p hm (hL.below hb).reads (hC.below hb).reads (hB.below hb).reads hL.cap hC.cap hB.cap hs hp)
  rw [hr0]
  obtain ⟨r, hr⟩ : ∃ r, r = rdS s l p := ⟨_, rfl⟩
  rw [← hr] at KG ⊢
  obtain ⟨x0, z0, b0⟩ := heap_alloc2_both w (.cells #[.string s, .slice Ab (flat (bytesOf s)).length cb, .int .i64 (p : Int), .slice Ao no co, .int .i64 m, .int .i64 0] 53) (.cells #[.string ⟨#[]⟩, .slice none 0 0, .int .i64 0, .slice none 0 0, .int .i64 0, .int .i64 0] 53)
  have XZB := Aside0.mk (And.intro x0 (And.intro z0 b0))
  obtain ⟨nf, hnf⟩ : ∃ n, n = (flat (bytesOf s)).length := ⟨_, rfl⟩
  rw [← hnf] at XZB KG ⊢
  clear hr hr0 hB hL hC hm x0 z0 b0 hnf
  have q0 : ((0 : Int) != 0) = false := rfl
  go_enter Tryz.func47, Tryz.ntmps47
  go_wp2_with fail
  refine (KG.out _ XZB.out.2.2).mono ?_
  rintro e W ⟨rfl, hb1⟩
  have x1 := blk_below XZB.out.1 hb1
  have z1 := blk_below XZB.out.2.1 hb1
  have b1 := XZB.out.2.2.trans (hb1.mono (by simp; omega))
  clear hb1 XZB KG
  have c0 : W.cell? ⟨w.heap.size, 2, none⟩ = some (.int .i64 (p : Int)) := blk_cell x1 2
  have c1 : W.cell? ⟨w.heap.size, 5, none⟩ = some (.int .i64 0) := blk_cell x1 5
  have f0 := blk_frozen x1 2
  have f1 := blk_frozen x1 5
  have X2 := Aside0.mk (st_set5 (st_set2 x1 (.int .i64 (r.2.2 : Int))) (.int .i64 r.2.1))
  have Z2 := Aside0.mk (blk_far (blk_far z1 (show w.heap.size + 1 ≠ (⟨w.heap.size, 2, none⟩ : Addr).block by simp) (.int .i64 (r.2.2 : Int))) (show w.heap.size + 1 ≠ (⟨w.heap.size, 5, none⟩ : Addr).block by simp) (.int .i64 r.2.1))
  have B2 := Aside0.mk ((b1.setCell (p := ⟨w.heap.size, 2, none⟩) (Nat.le_refl _) (.int .i64 (r.2.2 : Int))).setCell (p := ⟨w.heap.size, 5, none⟩) (Nat.le_refl _) (.int .i64 r.2.1))
  clear x1 z1 b1
  go_wp2_with (first | (refine wpList_load_row rfl 53 _ rfl w.heap.size rfl 53 _ (0, 0) _ X2.out Tryz.underlying53 rfl infoState ?_) | (refine wpList_store_rowTo rfl 53 _ _ rfl rfl (w.heap.size + 1) #[.string s, .slice Ab nf cb, .int .i64 (r.2.2 : Int), .slice Ao no co, .int .i64 m, .int .i64 r.2.1] rfl rfl 53 _ Z2.out infoState rfl (st_one _ _ _ _ _ _ _ _ _ _) ?_))
  have hz := setRow_heap _ _ _ #[.string s, .slice Ab nf cb, .int .i64 (r.2.2 : Int), .slice Ao no co, .int .i64 m, .int .i64 r.2.1] _ _ Z2.out
  refine bodyPost_ret (results_ct rfl _ _ (w.heap.size + 1) 53 #[.string s, .slice Ab nf cb, .int .i64 (r.2.2 : Int), .slice Ao no co, .int .i64 m, .int .i64 r.2.1] (0, 0) _ rfl hz Tryz.underlying53 rfl infoState) ?_ ?_
  ·rfl
  ·exact ⟨rfl, below_setRow B2.out (by omega) _⟩
 ·have q0 : (c != 0) = true := bne_iff_ne.2 h
  have hb : rsym s p c l = (p, c, 0) := if_neg h
  rw [hb]
  obtain ⟨nf, hnf⟩ : ∃ n, n = (flat (bytesOf s)).length := ⟨_, rfl⟩
  rw [← hnf]
  clear hb h hB hL hC hnf hm
  go_enter Tryz.func47, Tryz.ntmps47
  go_wp2_with fail
  exact bodyPost_ret (results_ct rfl _ _ (w.heap.size + 1) 53 #[.string s, .slice Ab nf cb, .int .i64 (p : Int), .slice Ao no co, .int .i64 m, .int .i64 c] (0, 0) _ rfl (heap_alloc2_new _ _ _) Tryz.underlying53 rfl infoState) rfl ⟨rfl, below_alloc (below_alloc (Below.refl _ _) _) _⟩
structure Bx (w W : World) (S : Nat → Prop) (x z : Nat) (cs : Array Value) : Prop where
 xb : W.heap[x]? = some (.cells cs 53 (0, 0))
 zb : W.heap[z]? = some (.cells #[.string ⟨#[]⟩, .slice none 0 0, .int .i64 0, .slice none 0 0, .int .i64 0, .int .i64 0] 53 (0, 0))
 fr : Fr w W S
 xw : w.heap.size ≤ x
 zw : w.heap.size ≤ z
 ne : x ≠ z
section
variable {w W W1 : World} {S : Nat → Prop} {x z : Nat} {cs : Array Value}
theorem Bx.below (h : Bx w W S x z cs) (hb : Below W.heap.size W W1) : Bx w W1 S x z cs := ⟨blk_below h.xb hb, blk_below h.zb hb, h.fr.then_ (Fr.of_below hb _), h.xw, h.zw, h.ne⟩
theorem Bx.drawn (h : Bx w W S x z cs) (hd : Drawn0 W W1) : Bx w W1 S x z cs := by obtain ⟨n, rfl⟩ := hd.out; exact ⟨h.xb, h.zb, h.fr.drewN n, h.xw, h.zw, h.ne⟩
theorem Bx.mono {S' : Nat → Prop} (h : Bx w W S x z cs) (hs : ∀ k, k < w.heap.size → S k → S' k) : Bx w W S' x z cs := ⟨h.xb, h.zb, h.fr.mono hs, h.xw, h.zw, h.ne⟩
theorem Bx.s8 {B : Nat} (h : Bx w W (S8 B w) x z cs) (hf : Fr W W1 (S8 B W)) : Bx w W1 (S8 B w) x z cs := ⟨s8_blk h.xb (by decide) hf, s8_blk h.zb (by decide) hf, h.fr.s8 hf, h.xw, h.zw, h.ne⟩
theorem Bx.put (h : Bx w W S x z cs) (cs' : Array Value) : Bx w (W.setRow x cs') S x z cs' :=
 ⟨setRow_heap _ _ _ _ _ _ h.xb, (setRow_other _ _ _ _ (Ne.symm h.ne)).trans h.zb, h.fr.trans (fr_setRow W x cs') (fun k hk e => by have := h.xw; subst e; omega), h.xw, h.zw, h.ne⟩
theorem Bx.out (h : Bx w W S x z cs) (cs' : Array Value) : (W.setRow z cs').heap[z]? = some (.cells cs' 53 (0, 0)) ∧ Fr w (W.setRow z cs') S :=
 ⟨setRow_heap _ _ _ _ _ _ h.zb, h.fr.trans (fr_setRow W z cs') (fun k hk e => by have := h.zw; subst e; omega)⟩
theorem Bx.set (h : Bx w W S x z cs) (i : Nat) (u : Value) : Bx w (W.setCell ⟨x, i, none⟩ u) S x z (cs.setIfInBounds i u) :=
 ⟨blk_set h.xb i u, blk_far h.zb (p := ⟨x, i, none⟩) (Ne.symm h.ne) u, h.fr.setCell (p := ⟨x, i, none⟩) (fun hk => by have := h.xw; exact absurd hk (by show ¬ x < _; omega)) u, h.xw, h.zw, h.ne⟩
theorem Bx.new (w : World) (S : Nat → Prop) (cs : Array Value) : Bx w ((w.alloc (.cells cs 53)).alloc (.cells #[.string ⟨#[]⟩, .slice none 0 0, .int .i64 0, .slice none 0 0, .int .i64 0, .int .i64 0] 53)) S w.heap.size (w.heap.size + 1) cs :=
 ⟨heap_alloc2_old _ _ _, heap_alloc2_new _ _ _, Fr.of_below (below_alloc (below_alloc (Below.refl _ _) _) _) _, Nat.le_refl _, by omega, by omega⟩
def N0 (k : Nat) : Prop := False
theorem Bx.row {B : Nat} {v : Value} {o : List Int} (h : Bx w W N0 x z cs) (ho : Row w B 5 .u8 v o) : Row W B 5 .u8 v o := ho.fr h.fr (fun _ _ h => h)
theorem Bx.n0 (h : Bx w W N0 x z cs) : Fr w W S := h.fr.mono (fun _ _ h => h.elim)
theorem Bx.ans {B : Nat} {v : Value} {o : List Int} (h : Bx w W S x z cs) (ho : Row W B 5 .u8 v o) (cs' : Array Value) : Row (W.setRow z cs') B 5 .u8 v o :=
 ho.fr (fr_setRow W z cs') (fun j hj => ho.ne_blk h.zb (by decide) j hj)
end
theorem st_cells {W : World} {x : Nat} {a b c d e f : Value} {t : TypeId} (h : W.heap[x]? = some (.cells #[a, b, c, d, e, f] t (0, 0))) :
  W.cell? ⟨x, 0, none⟩ = some a ∧ W.cell? ⟨x, 1, none⟩ = some b ∧ W.cell? ⟨x, 2, none⟩ = some c ∧ W.cell? ⟨x, 3, none⟩ = some d ∧ W.cell? ⟨x, 4, none⟩ = some e ∧ W.cell? ⟨x, 5, none⟩ = some f :=
 ⟨blk_cell h 0, blk_cell h 1, blk_cell h 2, blk_cell h 3, blk_cell h 4, blk_cell h 5⟩
theorem st_free {W : World} {x : Nat} {cs : Array Value} {t : TypeId} (h : W.heap[x]? = some (.cells cs t (0, 0))) :
  W.frozen? ⟨x, 0, none⟩ = false ∧ W.frozen? ⟨x, 1, none⟩ = false ∧ W.frozen? ⟨x, 2, none⟩ = false ∧ W.frozen? ⟨x, 3, none⟩ = false ∧ W.frozen? ⟨x, 4, none⟩ = false ∧ W.frozen? ⟨x, 5, none⟩ = false :=
 ⟨blk_frozen h 0, blk_frozen h 1, blk_frozen h 2, blk_frozen h 3, blk_frozen h 4, blk_frozen h 5⟩
theorem Bx.set6 {w W : World} {S : Nat → Prop} {x z : Nat} {a b c d e f : Value} (h : Bx w W S x z #[a, b, c, d, e, f]) (a' b' c' d' e' f' : Value) :
  Bx w ((((((W.setCell ⟨x, 0, none⟩ a').setCell ⟨x, 1, none⟩ b').setCell ⟨x, 2, none⟩ c').setCell ⟨x, 3, none⟩ d').setCell ⟨x, 4, none⟩ e').setCell ⟨x, 5, none⟩ f') S x z #[a', b', c', d', e', f'] :=
 (((((h.set 0 a').set 1 b').set 2 c').set 3 d').set 4 e').set 5 f'
theorem Bx.app {w W w1 : World} {B x z : Nat} {cs : Array Value} {v v' : Value} {o o' : List Int} (h : Bx w W (S8 B w) x z cs) (hr : Row W B 5 .u8 v o) (hap : App W w1 B 5 .u8 v v' o') : Bx w w1 (S8 B w) x z cs :=
 ⟨hap.blk hr h.xb (by decide), hap.blk hr h.zb (by decide), h.fr.s8 ((Fr.of_grown hap.grown).mono (fun k hk hv => ⟨(hr.lt k hv).1, by obtain ⟨cs, hc⟩ := hr.blk k hv; exact ⟨cs, (0, 0), hc⟩⟩)), h.xw, h.zw, h.ne⟩
def SB (B x : Nat) (w : World) (k : Nat) : Prop := k = x ∨ S8 B w k
theorem Fr.sb {w w1 w2 : World} {B x : Nat} (h : Fr w w1 (SB B x w)) (k : Fr w1 w2 (SB B x w1)) : Fr w w2 (SB B x w) :=
 h.trans k (fun j hj hs => by
  by_cases hn : SB B x w j
  ·exact hn
  ·rcases hs with h1 | h1
   ·exact .inl h1
   ·exact .inr ⟨h1.1, U8.old h hj h1.2 hn⟩)
theorem Fr.sbB {w w1 w2 : World} {B x : Nat} (h : Fr w w1 (SB B x w)) (k : Below w1.heap.size w1 w2) : Fr w w2 (SB B x w) := h.then_ (Fr.of_below k _)
theorem Fr.sbS {w w1 w2 : World} {B x : Nat} (h : Fr w w1 (SB B x w)) (k : Fr w1 w2 (S8 B w1)) : Fr w w2 (SB B x w) := h.sb (k.mono (fun _ _ h => .inr h))
theorem Fr.sbX {w w1 w2 : World} {B x : Nat} (h : Fr w w1 (SB B x w)) (k : Fr w1 w2 (· = x)) : Fr w w2 (SB B x w) := h.sb (k.mono (fun _ _ h => .inl h))
theorem RdI.sb {w w1 : World} {B x : Nat} {A : Option Addr} {c : Nat} {xs : List Int} {cs : Array Value} (h : RdI w A c xs) (hx : w.heap[x]? = some (.cells cs 53 (0, 0))) (hf : Fr w w1 (SB B x w)) : RdI w1 A c xs :=
 h.fr hf (fun k hk cs fr hb => by
  rcases hk with rfl | ⟨_, cs', fr', hc⟩
  ·rw [hb] at hx
   injection hx with hx
   injection hx with _ hx
   exact absurd hx (by decide)
  ·rw [hb] at hc
   injection hc with hc
   injection hc with _ hc
   exact absurd hc (by decide))
theorem Row.put {W : World} {B x : Nat} {v : Value} {o : List Int} {cs : Array Value} (h : Row W B 5 .u8 v o) (hx : W.heap[x]? = some (.cells cs 53 (0, 0))) (cs' : Array Value) : Row (W.setRow x cs') B 5 .u8 v o :=
 h.fr (fr_setRow W x cs') (fun j hj => h.ne_blk hx (by decide) j hj)
theorem app_s8 {W w1 : World} {B : Nat} {v v' : Value} {o o' : List Int} (hr : Row W B 5 .u8 v o) (hap : App W w1 B 5 .u8 v v' o') : Fr W w1 (S8 B W) :=
 (Fr.of_grown hap.grown).mono (fun k hk hv => ⟨(hr.lt k hv).1, by obtain ⟨cs, hc⟩ := hr.blk k hv; exact ⟨cs, (0, 0), hc⟩⟩)
theorem wpList_putA {P : Program} {ops : Array Oper} {rest : List Oper} {o : Oper} {a : Act} {w : World} {Q : Exit → Act → World → Prop} (hgd : o.guard = none) (ty : TypeId) (x y : Operand) (ho : o.op = .store ty x y)
  (hd : o.dst = none) (g : Nat) (cells : Array Value) (hx : a.eval x = .pointer (some ⟨g, 0, none⟩)) (hy : a.eval y = .agg cells)
  (t : TypeId) (old : Array Value) (hg : w.heap[g]? = some (.cells old t (0, 0))) (hi : (P.info? ty).map (·.size) = some cells.size)
  (hold : old.size = cells.size) (h1 : cells.all (·.oneCell') = true)
  (h : ∀ w', Aside0 (w' = w.setRow g cells) → wpList P ops Q rest a w') : wpList P ops Q (o :: rest) a w :=
 wpList_store_rowTo hgd ty x y ho hd g cells hx hy t old hg hi hold h1 (h _ ⟨rfl⟩)
def ROut (B : Nat) (w : World) (s : ByteArray) (Ab : Option Addr) (cb : Nat) (m : Int) (r : Nat × List Int × Int) (e : Ending) (w' : World) : Prop :=
 ∃ (A : Option Addr) (k : Nat), e = .returned (.agg #[.string s, .slice Ab (flat (bytesOf s)).length cb, .int .i64 (r.1 : Int), .slice A r.2.1.length k, .int .i64 m, .int .i64 r.2.2]) ∧ Row w' B 5 .u8 (.slice A r.2.1.length k) r.2.1 ∧ Fr w w' (S8 B w)
def extraF (n free group : Int) : Int := if n < free then 0 else (n - free) / group + 1
theorem extra_f (n free group : Int) (h0 : 0 ≤ n ∧ n ≤ 1000) (h1 : 0 ≤ free ∧ free ≤ 1000) (h2 : 0 < group ∧ group ≤ 1000) : binderyref10_Extra.f n free group = some (extraF n free group) := by
 unfold binderyref10_Extra.f extraF
 by_cases h : n < free
 ·rw [if_pos h, if_pos h]
 ·have h3 : 0 ≤ (n - free) / group := Int.ediv_nonneg (by omega) (by omega)
  have h4 : (n - free) / group ≤ n - free := Int.ediv_le_self _ (by omega)
  rw [if_neg h, if_neg h, if_neg (by omega), w64 (x := n - free) (by omega) (by omega), td _ (by omega), w64 (x := (n - free) / group) (by omega) (by omega), w64 (by omega) (by omega)]
theorem lens_extra : ∀ k : Nat, k < 28 → extraF k 8 4 = ((lensT.getD k (0, 0)).2 : Int) := by decide
theorem dist_extra : ∀ k : Nat, k < 30 → extraF k 4 2 = ((distT.getD k (0, 0)).2 : Int) := by decide
theorem lens_all : (List.range 29).all (fun k => decide (binderyref10_Length.f 60 (k : Int) = some (lensT.getD k (0, 0)).1)) = true := by kernel_rfl
theorem dist_all : (List.range 30).all (fun k => decide (binderyref10_Distance.f 60 (k : Int) = some (distT.getD k (0, 0)).1)) = true := by kernel_rfl
theorem lens_least (k : Nat) (hk : k < 29) : binderyref10_Length.f 60 k = some (lensT.getD k (0, 0)).1 := of_decide_eq_true (List.all_eq_true.1 lens_all k (List.mem_range.2 hk))
theorem dist_least (k : Nat) (hk : k < 30) : binderyref10_Distance.f 60 k = some (distT.getD k (0, 0)).1 := of_decide_eq_true (List.all_eq_true.1 dist_all k (List.mem_range.2 hk))
theorem lens_small : ∀ k : Nat, k < 29 → (lensT.getD k (0, 0)).2 ≤ 5 ∧ 3 ≤ (lensT.getD k (0, 0)).1 ∧ (lensT.getD k (0, 0)).1 ≤ 258 := by decide
theorem dist_small : ∀ k : Nat, k < 30 → (distT.getD k (0, 0)).2 ≤ 13 ∧ 1 ≤ (distT.getD k (0, 0)).1 ∧ (distT.getD k (0, 0)).1 ≤ 24577 := by decide
theorem rbits_range (s : ByteArray) (p : Nat) (c : Int) (w : Nat) (hp : p ≤ 8 * s.size) : (rbits s p c w).1 ≤ 8 * s.size ∧ p ≤ (rbits s p c w).1 ∧ 0 ≤ (rbits s p c w).2.2 ∧ (rbits s p c w).2.2 < 2 ^ w := by
 have h := val_range s p w
 have h2 := pow_pos' w
 unfold rbits
 split
 ·split
  ·exact ⟨by assumption, by omega, h⟩
  ·exact ⟨hp, Nat.le_refl _, Int.le_refl _, h2⟩
 ·exact ⟨hp, Nat.le_refl _, Int.le_refl _, h2⟩
theorem rsym_range (s : ByteArray) (p : Nat) (c : Int) (l : List Int) (hp : p ≤ 8 * s.size) : (rsym s p c l).1 ≤ 8 * s.size ∧ 0 ≤ (rsym s p c l).2.2 := by
 unfold rsym
 split
 ·exact ⟨rdS_le s l p hp, rdS_nonneg s l p⟩
 ·exact ⟨hp, Int.le_refl _⟩
def rcopied (s : ByteArray) (m : Int) (p : Nat) (o : List Int) (k : Nat) (dist : List Int) : Nat × List Int × Int :=
 let b1 := rbits s p 0 (lensT.getD k (0, 0)).2
 let b2 := rsym s b1.1 b1.2.1 dist
 let c2 := rfail b2.2.1 (decide (29 < b2.2.2)) 4
 if c2 ≠ 0 then (b2.1, o, c2) else
  let b3 := rbits s b2.1 0 (distT.getD b2.2.2.toNat (0, 0)).2
  let c4 := rfail (rfail b3.2.1 (decide ((o.length : Int) < (distT.getD b2.2.2.toNat (0, 0)).1 + b3.2.2)) 3) (decide (m < (o.length : Int) + ((lensT.getD k (0, 0)).1 + b1.2.2))) 7
  (b3.1, if c4 = 0 then o ++ copyL ((distT.getD b2.2.2.toNat (0, 0)).1 + b3.2.2).toNat ((lensT.getD k (0, 0)).1 + b1.2.2).toNat o else o, c4)
theorem rcodes_calls (A : Option Addr) (c : Nat) (l : List Int) (w : World) (h : RdI w A c l) (hl : l.length ≤ 100000) :
  Calls Tryz.prog 46 #[.slice A l.length c] w fun e w' => ∃ (A1 : Option Addr) (c1 : Nat), e = .returned (.tuple #[.slice A1 (codesF l).length c1, .int .i64 (mayF l)]) ∧ RdI w' A1 c1 (codesF l) ∧ Below w.heap.size w w' := by
 obtain ⟨k, hk⟩ := (refcodes_ev l hl).rounds
 refine (binderyref09_Codes.calls k A c l _ _ w (kdC_reads h.reads) h.cap hk).mono fun e w' ⟨v, h1, h2, h3⟩ => ?_
 have h4 : Row w' w.heap.size 3 .i64 v (codesF l) := Kd.own_of_R h2
 obtain ⟨A1, c1, hv, _⟩ := h4.reads
 subst hv
 exact ⟨A1, c1, h1, RdI.row h4, h3⟩
end Go.Proofs.YtbgdadehjnifeaaGreat.Hand
