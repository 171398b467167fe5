/- Inflate: room, told, the tables; walked by hand. Inflate: what an inflater is in memory; room, told; walked by hand. Inflate: repeat; walked by hand. Inflate: coded; walked by hand. Inflate: stored; walked by hand. Inflate: fixed; walked by hand. Inflate: heads; walked by hand. Inflate: filler; walked by hand. -/
import Derived.Test.YtghoifkaikddlaaGreatInf
import Derived.Test.YtghoifkaikddlaaGreatHand09n
import Derived.Handy
import Derived.WalkMore
import Derived.Great.BuildSlice
import Derived.Lib.AppendStr
namespace Go.Proofs.YtghoifkaikddlaaGreat.Hand
open Go.RowKit Go.Proofs.YtghoifkaikddlaaGreatW.PrintWords Go.Proofs.YtghoifkaikddlaaGreatW.PrintLast Go.Proofs.YtghoifkaikddlaaGreatW.PrintMore Go.Proofs.YtghoifkaikddlaaGreat.Num Go.Proofs.YtghoifkaikddlaaGreat.Bits
set_option linter.unusedVariables false
set_option linter.unusedSimpArgs false
def spanV (l : List (Int × Nat)) : List Value := l.flatMap (fun x => [.int .i64 x.1, .int .i64 (x.2 : Int)])
theorem spanV_one (l : List (Int × Nat)) : ∀ v ∈ spanV l, v.oneCell' = true := fun u hu => by
 simp only [spanV, List.mem_flatMap] at hu
 obtain ⟨x, _, hx⟩ := hu
 simp at hx
 rcases hx with rfl | rfl <;> rfl
theorem spanV_get : ∀ (l : List (Int × Nat)) (i : Nat), i < l.length → (spanV l)[i * 2]? = some (.int .i64 (l.getD i (0, 0)).1) ∧ (spanV l)[i * 2 + 1]? = some (.int .i64 ((l.getD i (0, 0)).2 : Int))
 | [], i, h => absurd h (Nat.not_lt_zero _)
 | a :: l, 0, _ => ⟨rfl, rfl⟩
 | a :: l, i + 1, h => by
  have hh := spanV_get l i (by simpa using h)
  have e : ∀ j, (spanV (a :: l))[j + 2]? = (spanV l)[j]? := fun j => rfl
  rw [show (i + 1) * 2 = i * 2 + 2 by omega, show i * 2 + 2 + 1 = (i * 2 + 1) + 2 by omega, e, e, List.getD_cons_succ]
  exact hh
theorem run_index_span {P : Program} (W : World) (t e : TypeId) (n : Nat) (ie : TypeInfo) (ht : P.underlying t = some (.array n e)) (hagg : (isAgg e).run P W = .ok true W) (hie : P.info? e = some ie) (hsz : ie.size = 2)
  (T : List (Int × Nat)) (hn : T.length = n) (i : Nat) (hi : i < n) :
  (Instr.index t (.agg (spanV T).toArray) (.int .i64 (i : Int))).run P W = .ok (.agg #[.int .i64 (T.getD i (0, 0)).1, .int .i64 ((T.getD i (0, 0)).2 : Int)]) W := by
 have h0 : (0 ≤ (i : Int) ∧ (i : Int) < (n : Int)) := by omega
 have hx : List.take 2 (List.drop (i * 2) (spanV T)) = [.int .i64 (T.getD i (0, 0)).1, .int .i64 ((T.getD i (0, 0)).2 : Int)] := by
  obtain ⟨g0, g1⟩ := spanV_get T i (by omega)
  apply List.ext_getElem?
  intro j
  simp only [List.getElem?_take, List.getElem?_drop]
  match j with
  | 0 => simpa using g0
  | 1 => simpa using g1
  | j + 2 => rw [if_neg (by omega)]; rfl
 simp [Instr.index, asIntOf, run_underlying ht, h0, sizeOf, typeInfo, hie, hsz, part, Sem.run_bind, hagg, hx, hi]
theorem aggSpan (W : World) : (isAgg 214).run Tryz.prog W = .ok true W := by
 unfold isAgg; rw [Sem.run_bind, run_underlying Tryz.underlying214 W]; rfl
theorem infoSpan : (Tryz.prog.info? 214).map (·.size) = some 2 := by kernel_rfl
theorem index_lens (W : World) (i : Nat) (hi : i < 29) : (Instr.index 216 (.agg (spanV lensT).toArray) (.int .i64 (i : Int))).run Tryz.prog W = .ok (.agg #[.int .i64 (lensT.getD i (0, 0)).1, .int .i64 ((lensT.getD i (0, 0)).2 : Int)]) W := by
 obtain ⟨ie, hie, hsz⟩ := Option.map_eq_some_iff.1 infoSpan
 exact run_index_span W _ 214 29 ie Tryz.underlying216 (aggSpan W) hie hsz lensT rfl i hi
theorem index_dist (W : World) (i : Nat) (hi : i < 30) : (Instr.index 218 (.agg (spanV distT).toArray) (.int .i64 (i : Int))).run Tryz.prog W = .ok (.agg #[.int .i64 (distT.getD i (0, 0)).1, .int .i64 ((distT.getD i (0, 0)).2 : Int)]) W := by
 obtain ⟨ie, hie, hsz⟩ := Option.map_eq_some_iff.1 infoSpan
 exact run_index_span W _ 214 30 ie Tryz.underlying218 (aggSpan W) hie hsz distT rfl i hi
theorem infoLens : (Tryz.prog.info? 216).map (·.size) = some 58 := by kernel_rfl
theorem infoDist : (Tryz.prog.info? 218).map (·.size) = some 60 := by kernel_rfl
set_option maxRecDepth 100000 in
set_option maxHeartbeats 4000000 in
theorem lengths_calls (w : World) : Calls Tryz.prog 186 #[] w fun e w' => e = .returned (.agg (spanV lensT).toArray) ∧ Below w.heap.size w w' := by
 go_enter Tryz.func186, Tryz.ntmps186
 obtain ⟨sv, hsv⟩ : ∃ sv : List Value, sv = spanV lensT := ⟨_, rfl⟩
 have hl : sv.length = 58 := by rw [hsv]; rfl
 have h1 : ∀ v ∈ sv, v.oneCell' = true := by rw [hsv]; exact spanV_one _
 rw [← hsv]
 have HS := Aside0.mk hsv
 have HL := Aside0.mk hl
 clear hsv hl
 go_wp2_with (first | (refine wpList_buildTo rfl 216 _ rfl _ rfl sv.toArray (by rw [HS.out]; kernel_rfl) ?_) | (refine wpList_store_mid rfl 216 _ _ rfl w.heap.size 0 sv.toArray rfl rfl (arr_there (cs := List.replicate 58 (.int .i64 0)) (t := 216) (heap_alloc_new w _) _ (by rw [List.size_toArray, HL.out]; rfl)) (by rw [infoLens]; simpa using HL.out.symm) (all_oneCell_toArray h1) ?_))
 exact bodyPost_ret (results_cell_row Tryz.results186 _ _ w.heap.size 216 sv.toArray (0, 0) _ rfl (setCells_blk (cs := List.replicate 58 (.int .i64 0)) (heap_alloc_new w _) (by rw [HL.out]; rfl)) Tryz.underlying216 rfl (by rw [infoLens]; simpa using HL.out.symm)) rfl ⟨rfl, ((Below.refl _ _).alloc (Nat.le_refl _) _).trans ((setCells_fr w.heap.size sv 0 _).below (by rintro k rfl; exact Nat.le_refl _) (by simp))⟩
set_option maxRecDepth 100000 in
set_option maxHeartbeats 4000000 in
theorem distances_calls (w : World) : Calls Tryz.prog 187 #[] w fun e w' => e = .returned (.agg (spanV distT).toArray) ∧ Below w.heap.size w w' := by
 go_enter Tryz.func187, Tryz.ntmps187
 obtain ⟨sv, hsv⟩ : ∃ sv : List Value, sv = spanV distT := ⟨_, rfl⟩
 have hl : sv.length = 60 := by rw [hsv]; rfl
 have h1 : ∀ v ∈ sv, v.oneCell' = true := by rw [hsv]; exact spanV_one _
 rw [← hsv]
 have HS := Aside0.mk hsv
 have HL := Aside0.mk hl
 clear hsv hl
 go_wp2_with (first | (refine wpList_buildTo rfl 218 _ rfl _ rfl sv.toArray (by rw [HS.out]; kernel_rfl) ?_) | (refine wpList_store_mid rfl 218 _ _ rfl w.heap.size 0 sv.toArray rfl rfl (arr_there (cs := List.replicate 60 (.int .i64 0)) (t := 218) (heap_alloc_new w _) _ (by rw [List.size_toArray, HL.out]; rfl)) (by rw [infoDist]; simpa using HL.out.symm) (all_oneCell_toArray h1) ?_))
 exact bodyPost_ret (results_cell_row Tryz.results187 _ _ w.heap.size 218 sv.toArray (0, 0) _ rfl (setCells_blk (cs := List.replicate 60 (.int .i64 0)) (heap_alloc_new w _) (by rw [HL.out]; rfl)) Tryz.underlying218 rfl (by rw [infoDist]; simpa using HL.out.symm)) rfl ⟨rfl, ((Below.refl _ _).alloc (Nat.le_refl _) _).trans ((setCells_fr w.heap.size sv 0 _).below (by rintro k rfl; exact Nat.le_refl _) (by simp))⟩
end Go.Proofs.YtghoifkaikddlaaGreat.Hand
namespace Go.Proofs.YtghoifkaikddlaaGreat.Hand
open Go.RowKit Go.Proofs.YtghoifkaikddlaaGreatW.PrintWords Go.Proofs.YtghoifkaikddlaaGreatW.PrintLast Go.Proofs.YtghoifkaikddlaaGreatW.PrintMore Go.Proofs.YtghoifkaikddlaaGreat.Num Go.Proofs.YtghoifkaikddlaaGreat.Bits
set_option linter.unusedVariables false
set_option linter.unusedSimpArgs false
structure InfAt (w : World) (B x g : Nat) (s : ByteArray) (p : Nat) (o : List Int) (m : Int) : Prop where
 blk : ∃ v, w.heap[x]? = some (.cells #[.pointer (some ⟨g, 0, none⟩), v, .int .i64 m] 166 (0, 0)) ∧ Row w B 5 .u8 v o
 rd : RdAt w g s p
def SI (B x g : Nat) (w : World) (k : Nat) : Prop := k = x ∨ k = g ∨ (B ≤ k ∧ U8 w k)
theorem U8.old {w w1 : World} {S : Nat → Prop} (h : Fr w w1 S) {k : Nat} (hk : k < w.heap.size) (hu : U8 w1 k) (hn : ¬ S k) : U8 w k := by
 obtain ⟨cs, fr, hc⟩ := hu
 exact ⟨cs, fr, (h.block k hk hn).symm.trans hc⟩
theorem Fr.si {w w1 w2 : World} {B x g : Nat} (h : Fr w w1 (SI B x g w)) (k : Fr w1 w2 (SI B x g w1)) : Fr w w2 (SI B x g w) :=
 h.trans k (fun j hj hs => by
  by_cases hn : SI B x g w j
  ·exact hn
  ·rcases hs with h1 | h1 | ⟨h1, h2⟩
   ·exact .inl h1
   ·exact .inr (.inl h1)
   ·exact .inr (.inr ⟨h1, U8.old h hj h2 hn⟩))
theorem Fr.siR {w w1 : World} {B x g : Nat} (h : Fr w w1 (· = g)) : Fr w w1 (SI B x g w) := h.mono (fun _ _ h => .inr (.inl h))
theorem Fr.siX {w w1 : World} {B x g : Nat} (h : Fr w w1 (· = x)) : Fr w w1 (SI B x g w) := h.mono (fun _ _ h => .inl h)
theorem Fr.siBelow {w w1 : World} {B x g : Nat} (h : Fr w w1 (SI B x g w)) {C : Nat} (hx : C ≤ x) (hg : C ≤ g) (hB : C ≤ B) (hC : C ≤ w.heap.size) : Below C w w1 := h.below (by rintro k (rfl | rfl | h); exact hx; exact hg; omega) hC
theorem InfAt.ne {w : World} {B x g : Nat} {s : ByteArray} {p : Nat} {o : List Int} {m : Int} (h : InfAt w B x g s p o m) : x ≠ g := by
 obtain ⟨v, hb, _⟩ := h.blk
 rintro rfl
 have q := h.rd.blk
 rw [hb] at q; injection q with q; injection q with _ q; exact absurd q (by decide)
theorem InfAt.below {w w1 : World} {B x g : Nat} {s : ByteArray} {p : Nat} {o : List Int} {m : Int} (h : InfAt w B x g s p o m) (hb : Below w.heap.size w w1) : InfAt w1 B x g s p o m := by
 obtain ⟨v, h1, h2⟩ := h.blk
 exact ⟨⟨v, blk_below h1 hb, h2.below hb⟩, ⟨blk_below h.rd.blk hb, h.rd.le⟩⟩
theorem InfAt.drawn {w w1 : World} {B x g : Nat} {s : ByteArray} {p : Nat} {o : List Int} {m : Int} (h : InfAt w B x g s p o m) (hd : Drawn0 w w1) : InfAt w1 B x g s p o m := by
 obtain ⟨n, rfl⟩ := hd.out; exact ⟨h.blk, h.rd.drawn ⟨n, rfl⟩⟩
theorem InfAt.read {w w1 : World} {B x g : Nat} {s : ByteArray} {p q : Nat} {o : List Int} {m : Int} (h : InfAt w B x g s p o m) (k : RdAt w1 g s q) (hf : Fr w w1 (· = g)) : InfAt w1 B x g s q o m := by
 obtain ⟨v, h1, h2⟩ := h.blk
 refine ⟨⟨v, hf.blk h1 h.ne, h2.fr hf (fun j hj => h2.ne_blk h.rd.blk (by decide) j hj)⟩, k⟩
theorem room_calls (w : World) (B x g : Nat) (s : ByteArray) (p : Nat) (o : List Int) (m n : Int) (h : InfAt w B x g s p o m) (hm0 : 0 ≤ m) (hm : m ≤ 100000000) (ho : o.length ≤ 100000000) (hn0 : 0 ≤ n) (hn : n ≤ 100000000) :
  Calls Tryz.prog 172 #[.pointer (some ⟨x, 0, none⟩), .int .i64 n] w fun e w' => e = .returned (.int .i64 (if m - (o.length : Int) < n then 7 else 0)) ∧ Drawn0 w w' := by
 obtain ⟨v, hb, hr⟩ := h.blk
 obtain ⟨A, c, rfl, _⟩ := hr.reads
 have c1 : w.cell? ⟨x, 1, none⟩ = some (.slice A o.length c) := blk_cell hb 1
 have c2 : w.cell? ⟨x, 2, none⟩ = some (.int .i64 m) := blk_cell hb 2
 clear hb hr h
 by_cases h1 : m - (o.length : Int) < n
 ·have q1 : decide (m - (o.length : Int) < n) = true := decide_eq_true h1
  rw [if_pos h1]
  clear h1
  go_enter Tryz.func172, Tryz.ntmps172
  go_wp2_with fail
  go_big_region
  go_wp2_with fail
  go_returns
  exact ⟨rfl, ⟨1, rfl⟩⟩
 ·have q1 : decide (m - (o.length : Int) < n) = false := decide_eq_false h1
  rw [if_neg h1]
  clear h1
  go_enter Tryz.func172, Tryz.ntmps172
  go_wp2_with fail
  go_big_region
  go_wp2_with fail
  go_returns
  exact ⟨rfl, ⟨1, rfl⟩⟩
def Left {α : Type} (r : Res α) (good : α → Value) (bad : Int → Value) (w' : World) (B x g : Nat) (s : ByteArray) (m : Int) (e : Ending) : Prop := match r with
 | .bad c => e = .returned (bad c)
 | .ok a p o => e = .returned (good a) ∧ InfAt w' B x g s p o m
theorem told_calls (w : World) (B x g : Nat) (s : ByteArray) (p : Nat) (o : List Int) (m a : Int) (b : Nat) (h : InfAt w B x g s p o m) (hs : s.size ≤ 1000000) (ha0 : 0 ≤ a) (ha : a ≤ 100000) (hb : b ≤ 13) (hB : B ≤ w.heap.size) :
  Calls Tryz.prog 184 #[.pointer (some ⟨x, 0, none⟩), .agg #[.int .i64 a, .int .i64 (b : Int)]] w fun e w' =>
   Left (toldM (a, b) s m p o) (fun n => .tuple #[.int .i64 n, .int .i64 0]) (fun c => .tuple #[.int .i64 a, .int .i64 c]) w' B x g s m e ∧ Fr w w' (SI B x g w) := by
 obtain ⟨v, hbk, hr⟩ := h.blk
 have c0 : w.cell? ⟨x, 0, none⟩ = some (.pointer (some ⟨g, 0, none⟩)) := blk_cell hbk 0
 have hxl := blk_lt hbk
 have hgl := blk_lt h.rd.blk
 have hne := h.ne
 have HI := Aside0.mk h
 clear hbk hr
 by_cases h1 : p + b ≤ 8 * s.size
 ·have e1 : toldM (a, b) s m p o = .ok (a + val s p b) (p + b) o := by
   unfold toldM RM.bind getM RM.ret; dsimp only; rw [if_pos h1]
  rw [e1]
  have KG := Aside0.mk (fun (W : World) (h : RdAt W g s p) => rd_get W g s p b h (by omega) (by omega) h1)
  have hv := val_range s p b
  have hp := pow_le2 (show b ≤ 13 by omega)
  obtain ⟨y, hy⟩ : ∃ y, y = val s p b := ⟨_, rfl⟩
  rw [← hy] at hv KG ⊢
  have hy0 := hv.1
  have hy1 : y ≤ 10000 := by omega
  clear hy e1 hv hp
  go_enter Tryz.func184, Tryz.ntmps184
  go_wp2_with fail
  have hb1 := below_alloc (Below.refl w.heap.size w) (.cells #[.int .i64 a, .int .i64 (b : Int)] 214)
  have hnb := heap_alloc_new w (.cells #[.int .i64 a, .int .i64 (b : Int)] 214)
  have HI1 := Aside0.mk (HI.out.below hb1)
  have d0 : (w.alloc (.cells #[.int .i64 a, .int .i64 (b : Int)] 214)).cell? ⟨x, 0, none⟩ = some (.pointer (some ⟨g, 0, none⟩)) := (hb1.cell hxl).trans c0
  have HB1 := Aside0.mk hb1
  obtain ⟨tb, htb⟩ : ∃ tb, tb = w.heap.size := ⟨_, rfl⟩
  have hgt : tb ≠ g := by omega
  rw [← htb] at hnb ⊢
  have d1 : (w.alloc (.cells #[.int .i64 a, .int .i64 (b : Int)] 214)).cell? ⟨tb, 1, none⟩ = some (.int .i64 (b : Int)) := blk_cell hnb 1
  have d2 : (w.alloc (.cells #[.int .i64 a, .int .i64 (b : Int)] 214)).cell? ⟨tb, 0, none⟩ = some (.int .i64 a) := blk_cell hnb 0
  generalize (w.alloc (.cells #[.int .i64 a, .int .i64 (b : Int)] 214)) = W1 at HI1 d0 d1 d2 HB1 ⊢
  clear hnb hb1 c0 HI htb
  go_region_held3 (fun w' => w'.cell? ⟨x, 0, none⟩ = some (.pointer (some ⟨g, 0, none⟩)) ∧ w'.cell? ⟨tb, 1, none⟩ = some (.int .i64 (b : Int))) (first | exact ⟨d0, d1⟩ | exact ⟨e0, e1⟩) ((go_at_call 162; refine (KG.out _ (HI1.out.rd.drawn ⟨1, rfl⟩)).mono ?_; rintro e w2 ⟨rfl, h2, f2'⟩; have f2 : Fr W1 w2 (· = g) := f2'.of_drew; have e0 := (f2.cell d0 hne); have e1 := f2.cell d1 hgt; have e2 := f2.cell d2 hgt))
  have HI2 := Aside0.mk (HI1.out.read h2 f2)
  have HF2 : Aside0 (Fr w w2 (SI B x g w)) := ⟨(Fr.of_below HB1.out _).si f2.siR⟩
  clear h2 f2 f2' HI1 KG d0 d1 d2 e0 e1
  go_wp2_with fail
  go_returns
  exact ⟨⟨rfl, HI2.out⟩, HF2.out⟩
 ·have e1 : toldM (a, b) s m p o = .bad 5 := by
   unfold toldM RM.bind getM RM.ret; dsimp only; rw [if_neg h1]
  rw [e1]
  have KG := Aside0.mk (fun (W : World) (h : RdAt W g s p) => rd_get_short W g s p b h (by omega) (by omega) (by omega))
  clear e1
  go_enter Tryz.func184, Tryz.ntmps184
  go_wp2_with fail
  have hb1 := below_alloc (Below.refl w.heap.size w) (.cells #[.int .i64 a, .int .i64 (b : Int)] 214)
  have hnb := heap_alloc_new w (.cells #[.int .i64 a, .int .i64 (b : Int)] 214)
  have HI1 := Aside0.mk (HI.out.below hb1)
  have d0 : (w.alloc (.cells #[.int .i64 a, .int .i64 (b : Int)] 214)).cell? ⟨x, 0, none⟩ = some (.pointer (some ⟨g, 0, none⟩)) := (hb1.cell hxl).trans c0
  have HB1 := Aside0.mk hb1
  obtain ⟨tb, htb⟩ : ∃ tb, tb = w.heap.size := ⟨_, rfl⟩
  have hgt : tb ≠ g := by omega
  rw [← htb] at hnb ⊢
  have d1 : (w.alloc (.cells #[.int .i64 a, .int .i64 (b : Int)] 214)).cell? ⟨tb, 1, none⟩ = some (.int .i64 (b : Int)) := blk_cell hnb 1
  have d2 : (w.alloc (.cells #[.int .i64 a, .int .i64 (b : Int)] 214)).cell? ⟨tb, 0, none⟩ = some (.int .i64 a) := blk_cell hnb 0
  generalize (w.alloc (.cells #[.int .i64 a, .int .i64 (b : Int)] 214)) = W1 at HI1 d0 d1 d2 HB1 ⊢
  clear hnb hb1 c0 HI htb
  go_region_held3 (fun w' => w'.cell? ⟨x, 0, none⟩ = some (.pointer (some ⟨g, 0, none⟩)) ∧ w'.cell? ⟨tb, 1, none⟩ = some (.int .i64 (b : Int))) (first | exact ⟨d0, d1⟩ | exact ⟨e0, e1⟩) ((go_at_call 162; refine (KG.out _ (HI1.out.rd.drawn ⟨1, rfl⟩)).mono ?_; rintro e w2 ⟨rfl, d2'⟩; have f2 : Fr W1 w2 (· = g) := (Fr.of_drawn d2' (· = g)).of_drew; have e0 := (f2.cell d0 hne); have e1 := f2.cell d1 hgt; have e2 := f2.cell d2 hgt))
  have HF2 : Aside0 (Fr w w2 (SI B x g w)) := ⟨(Fr.of_below HB1.out _).si f2.siR⟩
  clear d2' f2 HI1 KG d0 d1 d2 e0 e1
  go_wp2_with fail
  go_returns
  exact ⟨rfl, HF2.out⟩
end Go.Proofs.YtghoifkaikddlaaGreat.Hand
namespace Go.Proofs.YtghoifkaikddlaaGreat.Hand
open Go.RowKit Go.Proofs.YtghoifkaikddlaaGreatW.PrintWords Go.Proofs.YtghoifkaikddlaaGreatW.PrintLast Go.Proofs.YtghoifkaikddlaaGreatW.PrintMore Go.Proofs.YtghoifkaikddlaaGreat.Num Go.Proofs.YtghoifkaikddlaaGreat.Bits
set_option linter.unusedVariables false
set_option linter.unusedSimpArgs false
theorem TreeAt.frI {w w1 : World} {B B' tb x g : Nat} {ls cs many syms : List Int} {lg : Int} {s : ByteArray} {p : Nat} {o : List Int} {m : Int} (hT : TreeAt w B' tb ls cs many syms lg) (hI : InfAt w B x g s p o m) (hf : Fr w w1 (SI B x g w)) : TreeAt w1 B' tb ls cs many syms lg := by
 obtain ⟨⟨vl, vc, vs, hb, h1, h2, h3⟩, hm⟩ := hT
 obtain ⟨v, hx, _⟩ := hI.blk
 have hne : ¬ SI B x g w tb := by
  rintro (rfl | rfl | ⟨_, c2, fr, h⟩)
  ·rw [hb] at hx; injection hx with hx; injection hx with _ hx; exact absurd hx (by decide)
  ·have q := hI.rd.blk; rw [hb] at q; injection q with q; injection q with _ q; exact absurd q (by decide)
  ·rw [hb] at h; injection h with h; injection h with _ h; exact absurd h (by decide)
 have hrow : ∀ {u : Value} {xs : List Int}, Row w B' 3 .i64 u xs → ∀ j, u.ownBlock = some j → ¬ SI B x g w j := fun hr j hj hs => by
  rcases hs with rfl | rfl | ⟨_, c2, fr, h⟩
  ·exact hr.ne_blk hx (by decide) j hj rfl
  ·exact hr.ne_blk hI.rd.blk (by decide) j hj rfl
  ·exact hr.ne_blk h (by decide) j hj rfl
 exact ⟨⟨vl, vc, vs, hf.blk hb hne, h1.fr hf (hrow h1), h2.fr hf (hrow h2), h3.fr hf (hrow h3)⟩, hm⟩
theorem bind_bad {α β : Type} {f : RM α} {g : α → RM β} {s : ByteArray} {m : Int} {p : Nat} {o : List Int} {c : Int} (h : f s m p o = .bad c) : (f.bind g) s m p o = .bad c := by
 unfold RM.bind; rw [h]
theorem bind_ok {α β : Type} {f : RM α} {g : α → RM β} {s : ByteArray} {m : Int} {p q : Nat} {o o' : List Int} {a : α} (h : f s m p o = .ok a q o') : (f.bind g) s m p o = g a s m q o' := by
 unfold RM.bind; rw [h]
theorem told_eq (a : Int) (b : Nat) (s : ByteArray) (m : Int) (p : Nat) (o : List Int) : toldM (a, b) s m p o = if p + b ≤ 8 * s.size then .ok (a + val s p b) (p + b) o else .bad 5 := by
 unfold toldM RM.bind getM RM.ret
 by_cases h : p + b ≤ 8 * s.size
 ·rw [if_pos h, if_pos h]
 ·rw [if_neg h, if_neg h]
theorem told_ok {a : Int} {b : Nat} {s : ByteArray} {m : Int} {p : Nat} {o : List Int} (h : p + b ≤ 8 * s.size) : toldM (a, b) s m p o = .ok (a + val s p b) (p + b) o := by rw [told_eq, if_pos h]
theorem told_bad {a : Int} {b : Nat} {s : ByteArray} {m : Int} {p : Nat} {o : List Int} (h : ¬ p + b ≤ 8 * s.size) : toldM (a, b) s m p o = .bad 5 := by rw [told_eq, if_neg h]
theorem sym_ok {l : List Int} {s : ByteArray} {m : Int} {p : Nat} {o : List Int} (h : (rdS s l p).2.1 = 0) : symM l s m p o = .ok (rdS s l p).1 (rdS s l p).2.2 o := by unfold symM; rw [if_pos h]
theorem sym_bad {l : List Int} {s : ByteArray} {m : Int} {p : Nat} {o : List Int} (h : ¬ (rdS s l p).2.1 = 0) : symM l s m p o = .bad (rdS s l p).2.1 := by unfold symM; rw [if_neg h]
theorem symP_nonneg (l : List Int) (n i : Nat) : ∀ x ∈ symP l n i, 0 ≤ x := by
 intro x hx
 simp only [symP, List.mem_map] at hx
 obtain ⟨j, _, rfl⟩ := hx
 omega
theorem symA_nonneg (l : List Int) : ∀ n, ∀ x ∈ symA l n, 0 ≤ x
 | 0, x, hx => by simp [symA] at hx
 | 1, x, hx => by simp [symA] at hx
 | n + 2, x, hx => by
  rw [symA] at hx
  rcases List.mem_append.1 hx with hx | hx
  ·exact symA_nonneg l (n + 1) x hx
  ·exact symP_nonneg l _ _ x hx
theorem rdT_nonneg (s : ByteArray) (many syms : List Int) (lg : Nat) (hs : ∀ x ∈ syms, 0 ≤ x) : ∀ (d n : Nat) (code first at_ : Int) (p : Nat), 0 ≤ (rdT s many syms lg d n code first at_ p).1
 | 0, _, _, _, _, _ => by rw [rdT]; exact Int.le_refl _
 | d + 1, n, code, first, at_, p => by
  rw [rdT]
  split
  ·split
   ·split
    ·exact rdT_nonneg s many syms lg hs d _ _ _ _ _
    ·dsimp only
     rw [List.getD_eq_getElem?_getD]
     cases hc : syms[(at_ + (2 * code + val s p 1) - first * 2).toNat]? with
     | none => simp
     | some z => exact hs z (List.mem_of_getElem? hc)
   ·exact Int.le_refl _
  ·exact Int.le_refl _
theorem rdS_nonneg (s : ByteArray) (l : List Int) (p : Nat) : 0 ≤ (rdS s l p).1 := rdT_nonneg s _ _ _ (symA_nonneg l 16) _ _ _ _ _ _
theorem lens_le : ∀ i, i < 29 → 0 ≤ (lensT.getD i (0, 0)).1 ∧ (lensT.getD i (0, 0)).1 ≤ 258 ∧ (lensT.getD i (0, 0)).2 ≤ 5 := by decide
theorem dist_le : ∀ i, i < 30 → 1 ≤ (distT.getD i (0, 0)).1 ∧ (distT.getD i (0, 0)).1 ≤ 24577 ∧ (distT.getD i (0, 0)).2 ≤ 13 := by decide
theorem copyL_snoc (back n : Nat) (o : List Int) : o ++ copyL back (n + 1) o = (o ++ [o.getD (o.length - back) 0]) ++ copyL back n (o ++ [o.getD (o.length - back) 0]) := by
 rw [copyL, List.append_assoc]; rfl
theorem App.undrew {W w1 : World} {B : Nat} {e : TypeId} {k : IntKind} {v v1 : Value} {xs : List Int} (h : App W.drew w1 B e k v v1 xs) : App W w1 B e k v v1 xs := ⟨h.row, ⟨h.grown.os, h.grown.tape, h.grown.output, h.grown.size, h.grown.block⟩⟩
theorem InfAt.app {w w1 : World} {B x g : Nat} {s : ByteArray} {p : Nat} {o o' : List Int} {m : Int} {v v' : Value} {ob : Obj} (h : InfAt w B x g s p o m) (hb : w.heap[x]? = some (.cells #[.pointer (some ⟨g, 0, none⟩), v, .int .i64 m] 166 (0, 0))) (hr : Row w B 5 .u8 v o) (hB : B ≤ w.heap.size)
  (hap : App (w.alloc ob) w1 B 5 .u8 v v' o') : InfAt (w1.setCell ⟨x, 1, none⟩ v') B x g s p o' m ∧ Fr w (w1.setCell ⟨x, 1, none⟩ v') (SI B x g w) := by
 have hb1 := hap.blk1 hr hb (by decide)
 have hb2 := blk_set hb1 1 v'
 have hf1 : Fr w w1 (SI B x g w) := by
  refine (Fr.of_below (below_alloc (Below.refl _ _) ob) (SI B x g w)).trans (Fr.of_grown hap.grown) (fun k hk hv => ?_)
  have hr1 := hr.alloc ob
  refine .inr (.inr ⟨(hr1.lt k hv).1, ?_⟩)
  obtain ⟨cs, hc⟩ := hr.blk k hv
  exact ⟨cs, (0, 0), hc⟩
 have hf2 : Fr w1 (w1.setCell ⟨x, 1, none⟩ v') (· = x) := (Fr.refl _ _).set1 1 v'
 have hrd1 : RdAt w1 g s p := ⟨hap.blk1 hr h.rd.blk (by decide), h.rd.le⟩
 refine ⟨⟨⟨v', by rw [hb2]; simp, hap.row.fr hf2 (fun k hk => hap.row.ne_blk hb1 (by decide) k hk)⟩, hrd1.fr hf2 (fun e => h.ne e.symm)⟩, hf1.si hf2.siX⟩
set_option maxRecDepth 100000 in
set_option maxHeartbeats 4000000 in
theorem repeat_calls (w : World) (B B' x g tb sym : Nat) (l : List Int) (s : ByteArray) (p : Nat) (o : List Int) (m : Int) (h : InfAt w B x g s p o m) (hT : Tr w B' tb l) (hml : mayF l = 0) (hsym : sym < 29) (hs : s.size ≤ 1000000) (hB : B ≤ w.heap.size) (hm0 : 0 ≤ m) (hm : m ≤ 10000000) (ho : (o.length : Int) ≤ m) :
  Calls Tryz.prog 181 #[.pointer (some ⟨x, 0, none⟩), .int .i64 (sym : Int), .pointer (some ⟨tb, 0, none⟩)] w fun e w' =>
   Left (repeatM sym l s m p o) (fun _ => .int .i64 0) (fun c => .int .i64 c) w' B x g s m e ∧ Fr w w' (SI B x g w) := by
 obtain ⟨hl1, hl2, hl3⟩ := lens_le sym hsym
 have HX := Aside0.mk (fun (W : World) => index_lens W sym hsym)
 obtain ⟨res, hres⟩ : ∃ res, res = repeatM sym l s m p o := ⟨_, rfl⟩
 rw [← hres]
 unfold repeatM at hres
 obtain ⟨la, lb, hla⟩ : ∃ la lb, lensT.getD sym (0, 0) = (la, lb) := ⟨_, _, rfl⟩
 rw [hla] at hl1 hl2 hl3 HX hres
 dsimp only at hl1 hl2 hl3 HX
 have KT := Aside0.mk (fun (W : World) (h : InfAt W B x g s p o m) (hB : B ≤ W.heap.size) => told_calls W B x g s p o m la lb h hs hl1 (by omega) (by omega) hB)
 obtain ⟨sv, hsv⟩ : ∃ sv : List Value, sv = spanV lensT := ⟨_, rfl⟩
 have KL := Aside0.mk lengths_calls
 rw [← hsv] at KL HX
 have HI := Aside0.mk h
 have HT := Aside0.mk hT
 have hx := HX.out
 clear hsv hla h hT
 by_cases h1 : p + lb ≤ 8 * s.size
 ·rw [bind_ok (told_ok h1)] at hres
  rw [told_ok h1] at KT
  have hv := val_range s p lb
  have hp := pow_le2 (show lb ≤ 5 by omega)
  obtain ⟨N, hN⟩ := Int.eq_ofNat_of_zero_le (show 0 ≤ la + val s p lb by omega)
  rw [hN] at hres KT
  have hN2 : N ≤ 289 := by omega
  obtain ⟨p1, hp1⟩ : ∃ p1, p1 = p + lb := ⟨_, rfl⟩
  rw [← hp1] at hres KT
  have hp1s : p1 ≤ 8 * s.size := by omega
  have KR := Aside0.mk (fun (W : World) (h : Tr W B' tb l) (hR : RdAt W g s p1) => tread_calls W B' tb g l s p1 hml h hR hs)
  have hd0 := rdS_nonneg s l p1
  have hq := rdS_le s l p1 hp1s
  have hsy1 := fun h => sym_ok (l := l) (s := s) (m := m) (p := p1) (o := o) h
  have hsy2 := fun h => sym_bad (l := l) (s := s) (m := m) (p := p1) (o := o) h
  obtain ⟨rr, hrr⟩ : ∃ rr, rr = rdS s l p1 := ⟨_, rfl⟩
  rw [← hrr] at KR hd0 hq hsy1 hsy2
  obtain ⟨d, er, q⟩ := rr
  dsimp only at KR hd0 hq hsy1 hsy2
  obtain ⟨D, rfl⟩ := Int.eq_ofNat_of_zero_le hd0
  have HRES := Aside0.mk hres
  clear hv hp hN hp1 hp1s hrr hd0 hres
  go_enter Tryz.func181, Tryz.ntmps181
  go_wp2_with fail
  refine (KL.out w).mono ?_
  rintro e w1 ⟨rfl, hb1⟩
  have HI1 := Aside0.mk (HI.out.below hb1)
  have HT1 := Aside0.mk (TreeAt.below HT.out hb1)
  have HF1 := Aside0.mk hb1
  clear hb1 HI HT KL
  go_wp2_with fail
  refine (KT.out _ HI1.out (Nat.le_trans hB HF1.out.size)).mono ?_
  rintro e w2 ⟨⟨rfl, hi2⟩, hf2⟩
  have HI2 := Aside0.mk hi2
  have HT2 : Aside0 (Tr w2 B' tb l) := ⟨TreeAt.frI HT1.out HI1.out hf2⟩
  have HF2 := Aside0.mk ((Fr.of_below HF1.out (SI B x g w)).si hf2)
  obtain ⟨v2, hb2, _⟩ := hi2.blk
  have c2 : w2.cell? ⟨x, 0, none⟩ = some (.pointer (some ⟨g, 0, none⟩)) := blk_cell hb2 0
  clear hf2 hi2 hb2 HI1 HF1 HT1 KT hx HX
  go_wp2_with fail
  refine (KR.out _ HT2.out HI2.out.rd).mono ?_
  rintro e w3 ⟨rfl, h3, f3⟩
  have HI3 := Aside0.mk (HI2.out.read h3 f3)
  have HF3 := Aside0.mk (HF2.out.si f3.siR)
  clear h3 f3 HI2 HT2 HF2 KR c2
  by_cases her : er = 0
  ·subst her
   have hr1 := hsy1 rfl
   have HRES1 := HRES.out
   rw [bind_ok hr1] at HRES1
   clear hsy1 hsy2 HRES hr1
   by_cases hd30 : 30 ≤ D
   ·have q1 : decide (30 ≤ (D : Int)) = true := decide_eq_true (by omega)
    have q1n : decide (30 ≤ D) = true := decide_eq_true hd30
    rw [if_pos (by omega)] at HRES1
    unfold RM.err at HRES1
    subst HRES1
    go_wp2_with fail
    repeat (rw [Exit.noGoto_ret])
    go_returns
    exact ⟨rfl, HF3.out⟩
   ·have q1 : decide (30 ≤ (D : Int)) = false := decide_eq_false (by omega)
    have q1n : decide (30 ≤ D) = false := decide_eq_false hd30
    rw [if_neg (by omega), Int.toNat_natCast] at HRES1
    obtain ⟨hd1, hd2, hd3⟩ := dist_le D (by omega)
    have HX := Aside0.mk (fun (W : World) => index_dist W D (by omega))
    obtain ⟨da, db, hda⟩ : ∃ da db, distT.getD D (0, 0) = (da, db) := ⟨_, _, rfl⟩
    rw [hda] at hd1 hd2 hd3 HX HRES1
    dsimp only at hd1 hd2 hd3 HX
    have KT := Aside0.mk (fun (W : World) (h : InfAt W B x g s q o m) (hB : B ≤ W.heap.size) => told_calls W B x g s q o m da db h hs (by omega) (by omega) hd3 hB)
    obtain ⟨sv, hsv⟩ : ∃ sv : List Value, sv = spanV distT := ⟨_, rfl⟩
    have KL := Aside0.mk distances_calls
    rw [← hsv] at KL HX
    have hx := HX.out
    clear hsv hda
    by_cases h2 : q + db ≤ 8 * s.size
    ·rw [bind_ok (told_ok h2)] at HRES1
     rw [told_ok h2] at KT
     have hv := val_range s q db
     have hp := pow_le2 (show db ≤ 13 by omega)
     obtain ⟨K, hK⟩ := Int.eq_ofNat_of_zero_le (show 0 ≤ da + val s q db by omega)
     rw [hK] at HRES1 KT
     have hK2 : 1 ≤ K ∧ K ≤ 40000 := by omega
     obtain ⟨p2, hp2⟩ : ∃ p2, p2 = q + db := ⟨_, rfl⟩
     rw [← hp2] at HRES1 KT
     rw [bind_ok (show lookM s m p2 o = .ok o p2 o from rfl)] at HRES1
     have HRES := Aside0.mk HRES1
     clear hv hp hK hp2 HRES1
     go_wp2_with fail
     refine (KL.out _).mono ?_
     rintro e w4 ⟨rfl, hb4⟩
     have HI4 := Aside0.mk (HI3.out.below hb4)
     have HF4 := Aside0.mk (HF3.out.then_ (Fr.of_below hb4 _))
     clear hb4 HI3 HF3 KL
     go_wp2_with fail
     refine (KT.out _ HI4.out (Nat.le_trans hB HF4.out.size)).mono ?_
     rintro e w5 ⟨⟨rfl, hi5⟩, hf5⟩
     have HI5 := Aside0.mk hi5
     have HF5 := Aside0.mk (HF4.out.si hf5)
     obtain ⟨v5, hb5, hr5⟩ := hi5.blk
     obtain ⟨A5, n5, k5, hv5, hn5⟩ := hr5.shape
     subst hv5
     obtain rfl := hn5.out
     have c5 : w5.cell? ⟨x, 1, none⟩ = some (.slice A5 o.length k5) := blk_cell hb5 1
     clear hf5 hi5 hb5 hr5 hn5 HI4 HF4 KT hx HX
     by_cases h3 : (o.length : Int) < (K : Int)
     ·have q2 : decide ((o.length : Int) < (K : Int)) = true := decide_eq_true h3
      have q2n : decide (o.length < K) = true := decide_eq_true (by omega)
      have HRES1 := HRES.out
      rw [if_pos h3] at HRES1
      unfold RM.err at HRES1
      subst HRES1
      clear HRES
      go_wp2_with fail
      repeat (rw [Exit.noGoto_ret])
      go_returns
      exact ⟨rfl, HF5.out⟩
     ·have q2 : decide ((o.length : Int) < (K : Int)) = false := decide_eq_false h3
      have q2n : decide (o.length < K) = false := decide_eq_false (by omega)
      have HRES1 := HRES.out
      rw [if_neg h3, Int.toNat_natCast, Int.toNat_natCast] at HRES1
      unfold outM at HRES1
      rw [copyL_length] at HRES1
      have KM := Aside0.mk (room_calls w5 B x g s p2 o m N HI5.out hm0 (by omega) (by omega) (by omega) (by omega))
      clear HRES
      by_cases h4 : m - (o.length : Int) < (N : Int)
      ·rw [if_pos h4] at HRES1 KM
       subst HRES1
       go_wp2_with fail
       refine KM.out.mono ?_
       rintro e w6 ⟨rfl, hd6⟩
       have HF6 := Aside0.mk (HF5.out.then_ (Fr.of_drawn hd6 _))
       clear hd6 HF5 HI5 KM
       go_wp2_with fail
       go_returns
       exact ⟨rfl, HF6.out⟩
      ·rw [if_neg h4] at HRES1 KM
       go_wp2_with fail
       refine KM.out.mono ?_
       rintro e w6 ⟨rfl, hd6⟩
       have HF6 := Aside0.mk (HF5.out.then_ (Fr.of_drawn hd6 _))
       have HI6 := Aside0.mk (HI5.out.drawn hd6)
       have HRES := Aside0.mk HRES1
       clear hd6 HF5 HI5 KM HRES1 c5
       go_wp2_with fail
       go_loopw [66] (fun v66 wr => ∃ (j : Nat) (ol : List Int), v66 = .int .i64 j ∧ j ≤ N ∧ ol.length = o.length + j ∧ Aside0 (InfAt wr B x g s p2 ol m ∧ ol ++ copyL K (N - j) ol = o ++ copyL K N o ∧ Fr w wr (SI B x g w))) (fun v66 _ => N - (intOf v66).toNat)
       case atStart => exact ⟨0, o, rfl, by omega, by omega, HI6.out, by simp, HF6.out⟩
       case round =>
        clear HI6 HF6
        obtain ⟨j, ol, rfl, hj, hol, HW⟩ := hrel
        by_cases hlt : j < N
        ·have r1 : decide ((j : Int) < (N : Int)) = true := decide_eq_true (by omega)
         have r1n : decide (j < N) = true := decide_eq_true hlt
         obtain ⟨v7, hb7, hr7⟩ := HW.out.1.blk
         obtain ⟨A7, k7, hv7, hrd7⟩ := hr7.reads
         subst hv7
         obtain ⟨ix, hix⟩ : ∃ ix, ix = ol.length - K := ⟨_, rfl⟩
         have hix2 : (ol.length : Int) - (K : Int) = (ix : Int) := by omega
         obtain ⟨ad, hadd, hcell⟩ := ReadsInt.at_ hrd7 (ix : Int) (by omega) (by omega)
         subst hadd
         rw [Int.toNat_natCast, rd, Int.toNat_natCast] at hcell
         obtain ⟨y, hy⟩ : ∃ y, y = ol.getD ix 0 := ⟨_, rfl⟩
         rw [← hy] at hcell
         have HY : Aside0 (y = ol.getD (ol.length - K) 0) := ⟨by rw [hy, hix]⟩
         have hixl : ix < ol.length := by omega
         have hixI0 : (0 : Int) ≤ (ix : Int) := by omega
         have hixI1 : (ix : Int) < (ol.length : Int) := by omega
         have hixW : IntKind.i64.wrap (ix : Int) = (ix : Int) := by rw [IntKind.wrap_i64]; omega
         have c7 : wr.cell? ⟨x, 1, none⟩ = some (.slice (some ad) ol.length k7) := blk_cell hb7 1
         have HR7 : Aside0 (_ ∧ _) := ⟨hb7, hr7⟩
         have hBw : B ≤ wr.heap.size := Nat.le_trans hB HW.out.2.2.size
         have hl1 : ol.length + 1 ≤ maxLen := by unfold maxLen; omega
         have hl2 : (ol.length + 1) * 1 ≤ 140737488355328 := by omega
         have HLN := Aside0.mk hol
         have hnw : ∀ j u, (nums .u8 [y])[j]? = some u → (wr.alloc (.cells #[.int .u8 y] 5)).drew.cell? ((⟨wr.heap.size, 0, none⟩ : Addr).add j) = some u := news_lit wr .u8 [y] #[.int .u8 y] 5 rfl
         have hrw : Row (wr.alloc (.cells #[.int .u8 y] 5)).drew B 5 .u8 (.slice (some ad) ol.length k7) ol := (HR7.out.2.alloc (.cells #[.int .u8 y] 5)).drew
         have hBy : B ≤ (wr.alloc (.cells #[.int .u8 y] 5)).drew.heap.size := by simp; omega
         have e7 : (wr.alloc (.cells #[.int .u8 y] 5)).drew.cell? ⟨x, 1, none⟩ = some (.slice (some ad) ol.length k7) := (blk_cell (blk_alloc (show wr.heap[x]? = _ from HR7.out.1) _) 1)
         have e8 : (wr.alloc (.cells #[.int .u8 y] 5)).drew.cell? (ad.add ix) = some (.int .u8 y) := ((below_alloc (Below.refl wr.heap.size wr) _).cell (World.block_lt_of_cell? wr _ hcell)).trans hcell
         clear hix hy hb7 hr7 hrd7 hol
         go_wp2_with fail
         go_region_law ((refine app_step B rfl _ _ 59 5 .u8 1 rfl Tryz.underlying59 infoU8 (.slice (some ad) ol.length k7) ol [y] rfl ⟨wr.heap.size, 0, none⟩ 1 1 rfl rfl hnw hrw hBy hl1 hl2 ?_; intro v8 w8 hap; obtain ⟨A8, n8, k8, hv8, hn8⟩ := hap.row.shape; subst hv8; have hap1 := hap.undrew; have hb8 := hap1.blk1 HR7.out.2 HR7.out.1 (by decide); have f8 := blk_frozen hb8 1; have d8 : w8.cell? ⟨x, 1, none⟩ = some (.slice (some ad) ol.length k7) := blk_cell hb8 1))
         all_goals
          have HK := Aside0.mk (HW.out.1.app HR7.out.1 HR7.out.2 hBw hap1)
          have hcs := copyL_snoc K (N - (j + 1)) ol
          rw [show N - (j + 1) + 1 = N - j by omega, ← HY.out] at hcs
          have HE : Aside0 (ol ++ [y] ++ copyL K (N - (j + 1)) (ol ++ [y]) = o ++ copyL K N o) := ⟨hcs.symm.trans HW.out.2.1⟩
          clear hap hap1 hb8 f8 d8 hnw hrw hBy e7 e8 c7 hcell hcs HY
          go_wp2_with fail
          go_roundw
          case rel => exact ⟨j + 1, ol ++ [y], by go_num, by omega, by rw [List.length_append, List.length_singleton, HLN.out]; omega, HK.out.1, HE.out, HW.out.2.2.si HK.out.2⟩
          case measure => simp [intOf]; omega
        ·have r1 : decide ((j : Int) < (N : Int)) = false := decide_eq_false (by omega)
         have r1n : decide (j < N) = false := decide_eq_false hlt
         obtain rfl : j = N := by omega
         go_wp2_with fail
         go_returns
         have he := HW.out.2.1
         rw [Nat.sub_self, copyL, List.append_nil] at he
         refine ⟨?_, HW.out.2.2⟩
         rw [HRES.out, ← he]
         exact ⟨rfl, HW.out.1⟩
    ·rw [bind_bad (told_bad h2)] at HRES1
     rw [told_bad h2] at KT
     subst HRES1
     go_wp2_with fail
     refine (KL.out _).mono ?_
     rintro e w4 ⟨rfl, hb4⟩
     have HI4 := Aside0.mk (HI3.out.below hb4)
     have HF4 := Aside0.mk (HF3.out.then_ (Fr.of_below hb4 _))
     clear hb4 HI3 HF3 KL
     go_wp2_with fail
     refine (KT.out _ HI4.out (Nat.le_trans hB HF4.out.size)).mono ?_
     rintro e w5 ⟨rfl, hf5⟩
     have HF5 := Aside0.mk (HF4.out.si hf5)
     clear hf5 HI4 HF4 KT
     go_wp2_with fail
     repeat (rw [Exit.noGoto_ret])
     go_returns
     exact ⟨rfl, HF5.out⟩
  ·have hr1 := hsy2 her
   have HRES1 := HRES.out
   rw [bind_bad hr1] at HRES1
   subst HRES1
   have q1 : (er != 0) = true := by simpa using her
   clear hsy1 hsy2 HRES hr1 her
   go_wp2_with fail
   repeat (rw [Exit.noGoto_ret])
   go_returns
   exact ⟨rfl, HF3.out⟩
 ·rw [bind_bad (told_bad h1)] at hres
  rw [told_bad h1] at KT
  subst hres
  go_enter Tryz.func181, Tryz.ntmps181
  go_wp2_with fail
  refine (KL.out w).mono ?_
  rintro e w1 ⟨rfl, hb1⟩
  have HI1 := Aside0.mk (HI.out.below hb1)
  have HF1 := Aside0.mk hb1
  clear hb1 HI
  go_wp2_with fail
  refine (KT.out _ HI1.out (Nat.le_trans hB HF1.out.size)).mono ?_
  rintro e w2 ⟨rfl, hf2⟩
  have HF2 := Aside0.mk ((Fr.of_below HF1.out (SI B x g w)).si hf2)
  clear hf2 HI1 HF1 KT
  go_wp2_with fail
  go_returns
  exact ⟨rfl, HF2.out⟩
end Go.Proofs.YtghoifkaikddlaaGreat.Hand
namespace Go.Proofs.YtghoifkaikddlaaGreat.Hand
open Go.RowKit Go.Proofs.YtghoifkaikddlaaGreatW.PrintWords Go.Proofs.YtghoifkaikddlaaGreatW.PrintLast Go.Proofs.YtghoifkaikddlaaGreatW.PrintMore Go.Proofs.YtghoifkaikddlaaGreat.Num Go.Proofs.YtghoifkaikddlaaGreat.Bits
set_option linter.unusedVariables false
set_option linter.unusedSimpArgs false
theorem infoU8' : (Tryz.prog.info? 5).map (fun i => (i.zero, i.size, i.bytes)) = some (some (.int .u8 0), 1, 1) := by kernel_rfl
theorem rdS_big (s : ByteArray) (l : List Int) (p : Nat) (hl : l.length ≤ 320) : (rdS s l p).1 ≤ 320 := by
 have key : ∀ (d n : Nat) (code first at_ : Int) (q : Nat), (rdT s (cntL l) (symA l 16) (lgA l 16).toNat d n code first at_ q).1 ≤ 320 := by
  have hsy : ∀ n, ∀ x ∈ symA l n, x ≤ 320 := fun n => by
   induction n with
   | zero => intro x hx; simp [symA] at hx
   | succ n ih =>
    cases n with
    | zero => intro x hx; simp [symA] at hx
    | succ n =>
     intro x hx
     rw [symA] at hx
     rcases List.mem_append.1 hx with hx | hx
     ·exact ih x hx
     ·simp only [symP, List.mem_map, List.mem_filter, List.mem_range] at hx
      obtain ⟨j, ⟨hj, _⟩, rfl⟩ := hx
      omega
  intro d
  induction d with
  | zero => intro n code first at_ q; rw [rdT]; show (0 : Int) ≤ 320; decide
  | succ d ih =>
   intro n code first at_ q
   rw [rdT]
   split
   ·split
    ·split
     ·exact ih _ _ _ _ _
     ·dsimp only
      rw [List.getD_eq_getElem?_getD]
      cases hc : (symA l 16)[(at_ + (2 * code + val s q 1) - first * 2).toNat]? with
      | none => simp
      | some z => exact hsy 16 z (List.mem_of_getElem? hc)
    ·show (0 : Int) ≤ 320; decide
   ·show (0 : Int) ≤ 320; decide
 exact key _ _ _ _ _ _
set_option maxRecDepth 100000 in
set_option maxHeartbeats 4000000 in
theorem coded_calls (w : World) (B B1 B2 x g ta tb : Nat) (near far : List Int) (s : ByteArray) (p : Nat) (o : List Int) (m : Int) (k : Nat) (h : InfAt w B x g s p o m) (hTa : Tr w B1 ta near) (hTb : Tr w B2 tb far) (hma : mayF near = 0) (hmb : mayF far = 0) (hs : s.size ≤ 1000000) (hB : B ≤ w.heap.size) (hm0 : 0 ≤ m) (hm : m ≤ 10000000) (ho : (o.length : Int) ≤ m) (hp : p ≤ 8 * s.size) (hk : 8 * s.size < p + k) :
  Calls Tryz.prog 173 #[.pointer (some ⟨x, 0, none⟩), .pointer (some ⟨ta, 0, none⟩), .pointer (some ⟨tb, 0, none⟩)] w fun e w' =>
   Left (codedM near far k s m p o) (fun _ => .int .i64 0) (fun c => .int .i64 c) w' B x g s m e ∧ Fr w w' (SI B x g w) := by
 obtain ⟨res, hres⟩ : ∃ res, res = codedM near far k s m p o := ⟨_, rfl⟩
 rw [← hres]
 have HRES := Aside0.mk hres
 have H0 : Aside0 (_ ∧ _ ∧ _) := ⟨h, hTa, hTb⟩
 clear h hTa hTb hres
 go_enter Tryz.func173, Tryz.ntmps173
 go_wp2_with fail
 refine wp_scope_straight ?_
 go_wp2_with fail
 refine wp_label ?_
 go_wp2_with fail
 go_loopg [] k (fun kq wr => ∃ (p1 : Nat) (o1 : List Int), p1 ≤ 8 * s.size ∧ 8 * s.size < p1 + kq ∧ (o1.length : Int) ≤ m ∧ Aside0 (InfAt wr B x g s p1 o1 m ∧ Tr wr B1 ta near ∧ Tr wr B2 tb far ∧ res = codedM near far kq s m p1 o1 ∧ Fr w wr (SI B x g w)))
 case atStart => exact ⟨p, o, hp, hk, ho, H0.out.1, H0.out.2.1, H0.out.2.2, HRES.out, Fr.refl _ _⟩
 case round =>
  clear H0 HRES hp hk ho
  obtain ⟨p1, o1, hp1, hk1, ho1, HW⟩ := hrel
  cases gk with
  | zero => exact absurd hk1 (by omega)
  | succ k1 =>
   have KR := Aside0.mk (tread_calls wr B1 ta g near s p1 hma HW.out.2.1 HW.out.1.rd hs)
   have hd0 := rdS_nonneg s near p1
   have hdb := rdS_big s near p1 (may_zero hma).1
   have hq := rdS_le s near p1 hp1
   have hadv := fun h => rdS_adv (s := s) (l := near) (p := p1) hp1 h
   have hsy1 := fun h => sym_ok (l := near) (s := s) (m := m) (p := p1) (o := o1) h
   have hsy2 := fun h => sym_bad (l := near) (s := s) (m := m) (p := p1) (o := o1) h
   have hrec := HW.out.2.2.2.1
   rw [codedM] at hrec
   obtain ⟨rr, hrr⟩ : ∃ rr, rr = rdS s near p1 := ⟨_, rfl⟩
   rw [← hrr] at KR hd0 hdb hq hsy1 hsy2 hadv
   obtain ⟨d, er, q⟩ := rr
   dsimp only at KR hd0 hdb hq hsy1 hsy2 hadv
   obtain ⟨D, rfl⟩ := Int.eq_ofNat_of_zero_le hd0
   obtain ⟨v1, hb1, _⟩ := HW.out.1.blk
   have c1 : wr.cell? ⟨x, 0, none⟩ = some (.pointer (some ⟨g, 0, none⟩)) := blk_cell hb1 0
   have HREC := Aside0.mk hrec
   clear hrr hb1 hd0 hrec
   go_wp2_with fail
   refine KR.out.mono ?_
   rintro e w3 ⟨rfl, h3, f3⟩
   have HI3 := Aside0.mk (HW.out.1.read h3 f3)
   have HT3 : Aside0 (Tr w3 B1 ta near ∧ Tr w3 B2 tb far) := ⟨TreeAt.frR HW.out.2.1 HW.out.1.rd f3, TreeAt.frR HW.out.2.2.1 HW.out.1.rd f3⟩
   have HF3 := Aside0.mk (HW.out.2.2.2.2.si f3.siR)
   clear h3 f3 HW KR c1
   by_cases her : er = 0
   ·subst her
    have hr1 := hsy1 rfl
    have hadv1 := hadv rfl
    have HREC1 := HREC.out
    rw [bind_ok hr1] at HREC1
    clear hsy1 hsy2 HREC hr1 hadv
    by_cases h256 : D = 256
    ·subst h256
     rw [if_pos (by decide)] at HREC1
     unfold RM.ret at HREC1
     subst HREC1
     go_wp2_with fail
     repeat (rw [Exit.noGoto_ret])
     go_returns
     exact ⟨⟨rfl, HI3.out⟩, HF3.out⟩
    ·have q1 : ((D : Int) == 256) = false := beq_eq_false_iff_ne.2 (by omega)
     have q1n : (D == 256) = false := beq_eq_false_iff_ne.2 h256
     rw [if_neg (by omega)] at HREC1
     by_cases h286 : 286 ≤ D
     ·have q2 : decide (286 ≤ (D : Int)) = true := decide_eq_true (by omega)
      have q2n : decide (286 ≤ D) = true := decide_eq_true h286
      rw [if_pos (by omega)] at HREC1
      unfold RM.err at HREC1
      subst HREC1
      go_wp2_with fail
      repeat (rw [Exit.noGoto_ret])
      go_returns
      exact ⟨rfl, HF3.out⟩
     ·have q2 : decide (286 ≤ (D : Int)) = false := decide_eq_false (by omega)
      have q2n : decide (286 ≤ D) = false := decide_eq_false h286
      rw [if_neg (by omega)] at HREC1
      by_cases hbig : 256 < D
      ·have q3 : decide (256 < (D : Int)) = true := decide_eq_true (by omega)
       have q3n : decide (256 < D) = true := decide_eq_true hbig
       rw [if_pos (by omega)] at HREC1
       obtain ⟨sy, hsy⟩ : ∃ sy, D = sy + 257 := ⟨D - 257, by omega⟩
       have e1 : (D : Int) - 256 - 1 = (sy : Int) := by omega
       have e2 : ((D : Int) - 257).toNat = sy := by omega
       rw [e2] at HREC1
       have KP := Aside0.mk (repeat_calls w3 B B2 x g tb sy far s q o1 m HI3.out HT3.out.2 hmb (by omega) hs (Nat.le_trans hB HF3.out.size) hm0 hm ho1)
       have hG := fun a p' o' h => (Good.repeat_ sy far).mono (s := s) (m := m) (p := q) (o := o1) (a := a) (p' := p') (o' := o') hq h
       have hR := fun a p' o' h => ((Good.repeat_ sy far).room (s := s) (m := m) (p := q) (o := o1) (a := a) (p' := p') (o' := o') m hq h ho1 ho1).1
       have hN := fun c h => (NZ.repeat_ sy far).nz (s := s) (m := m) (p := q) (o := o1) (c := c) h
       clear hsy
       go_wp2_with fail
       refine KP.out.mono ?_
       rintro e w4 ⟨hleft, hf4⟩
       cases hr : repeatM sy far s m q o1 with
       | bad c =>
        rw [hr] at hleft
        obtain rfl := hleft
        rw [bind_bad hr] at HREC1
        subst HREC1
        have q4 : (c != 0) = true := by simpa using hN c hr
        have HF4 := Aside0.mk (HF3.out.si hf4)
        clear hf4 KP hG hR hN hr HI3 HT3 HF3
        go_wp2_with fail
        repeat (rw [Exit.noGoto_ret])
        go_returns
        exact ⟨rfl, HF4.out⟩
       | ok a p4 o4 =>
        rw [hr] at hleft
        obtain ⟨rfl, hi4⟩ := hleft
        rw [bind_ok hr] at HREC1
        have hg4 := hG a p4 o4 hr
        have hr4 := hR a p4 o4 hr
        have HW4 : Aside0 (InfAt w4 B x g s p4 o4 m ∧ Tr w4 B1 ta near ∧ Tr w4 B2 tb far ∧ res = codedM near far k1 s m p4 o4 ∧ Fr w w4 (SI B x g w)) := ⟨hi4, TreeAt.frI HT3.out.1 HI3.out hf4, TreeAt.frI HT3.out.2 HI3.out hf4, HREC1, HF3.out.si hf4⟩
        clear hf4 hi4 KP hG hR hN hr HI3 HT3 HF3 HREC1
        go_wp2_with fail
        go_roundg k1
        case measure => omega
        case rel => exact ⟨p4, o4, by omega, by omega, hr4, HW4⟩
      ·have q3 : decide (256 < (D : Int)) = false := decide_eq_false (by omega)
       have q3n : decide (256 < D) = false := decide_eq_false hbig
       rw [if_neg (by omega)] at HREC1
       have KM := Aside0.mk (room_calls w3 B x g s q o1 m 1 HI3.out hm0 (by omega) (by omega) (by omega) (by omega))
       by_cases hroom : m - (o1.length : Int) < 1
       ·rw [if_pos hroom] at KM
        rw [bind_bad (show outM [(D : Int) % 256] s m q o1 = .bad 7 by unfold outM; rw [if_pos (by simpa using hroom)])] at HREC1
        subst HREC1
        go_wp2_with fail
        refine KM.out.mono ?_
        rintro e w4 ⟨rfl, hd4⟩
        have HF4 := Aside0.mk (HF3.out.then_ (Fr.of_drawn hd4 _))
        clear hd4 KM HI3 HT3 HF3
        go_wp2_with fail
        repeat (rw [Exit.noGoto_ret])
        go_returns
        exact ⟨rfl, HF4.out⟩
       ·rw [if_neg hroom] at KM
        rw [bind_ok (show outM [(D : Int) % 256] s m q o1 = .ok () q (o1 ++ [(D : Int) % 256]) by unfold outM; rw [if_neg (by simpa using hroom)])] at HREC1
        go_wp2_with fail
        refine KM.out.mono ?_
        rintro e w4 ⟨rfl, hd4⟩
        have HI4 := Aside0.mk (HI3.out.drawn hd4)
        have HT4 : Aside0 (Tr w4 B1 ta near ∧ Tr w4 B2 tb far) := ⟨TreeAt.drawn HT3.out.1 hd4, TreeAt.drawn HT3.out.2 hd4⟩
        have HF4 := Aside0.mk (HF3.out.then_ (Fr.of_drawn hd4 _))
        have HREC := Aside0.mk HREC1
        clear hd4 KM HI3 HT3 HF3 HREC1
        obtain ⟨v4, hb4, hr4⟩ := HI4.out.blk
        obtain ⟨A4, n4, k4, hv4, hn4⟩ := hr4.shape
        subst hv4
        have HR4 : Aside0 (_ ∧ _) := ⟨hb4, hr4⟩
        have c4 : w4.cell? ⟨x, 1, none⟩ = some (.slice A4 n4 k4) := blk_cell hb4 1
        obtain ⟨y, hy⟩ : ∃ y : Int, y = (D : Int) % 256 := ⟨_, rfl⟩
        have hyw : IntKind.u8.wrap (D : Int) = y := (IntKind.wrap_u8 _).trans hy.symm
        rw [← hy] at HREC
        have hBw : B ≤ w4.heap.size := Nat.le_trans hB HF4.out.size
        have hl1 : o1.length + 1 ≤ maxLen := by unfold maxLen; omega
        have hl2 : (o1.length + 1) * 1 ≤ 140737488355328 := by omega
        have hBx : B ≤ (w4.alloc (.cells #[.int .u8 y] 5)).heap.size := by simp; omega
        clear hb4 hr4 hn4 hy
        go_wp2_with (at_builtin; refine app_wp B rfl _ _ 59 5 .u8 1 rfl Tryz.underlying59 infoU8' (.slice A4 n4 k4) o1 [y] rfl ⟨w4.heap.size, 0, none⟩ 1 1 rfl rfl (news_lit w4 .u8 [y] _ _ (by rfl)) (HR4.out.2.alloc _) hBx hl1 hl2 ?_; intro v8 w8 hap; obtain ⟨A8, n8, k8, hv8, hn8⟩ := hap.row.shape; subst hv8; have hb8 := hap.blk1 HR4.out.2 HR4.out.1 (by decide); have f8 := blk_frozen hb8 1; have d8 : w8.cell? ⟨x, 1, none⟩ = some (.slice A4 n4 k4) := blk_cell hb8 1)
        have HK := Aside0.mk (HI4.out.app HR4.out.1 HR4.out.2 hBw hap)
        have HW8 : Aside0 (InfAt _ B x g s q (o1 ++ [y]) m ∧ Tr _ B1 ta near ∧ Tr _ B2 tb far ∧ res = codedM near far k1 s m q (o1 ++ [y]) ∧ Fr w _ (SI B x g w)) := ⟨HK.out.1, TreeAt.frI HT4.out.1 HI4.out HK.out.2, TreeAt.frI HT4.out.2 HI4.out HK.out.2, HREC.out, HF4.out.si HK.out.2⟩
        clear hap hb8 f8 d8 HK HI4 HT4 HF4 HREC HR4 c4
        go_roundg k1
        case measure => omega
        case rel => exact ⟨q, o1 ++ [y], by omega, by omega, by rw [List.length_append, List.length_singleton]; omega, HW8⟩
   ·have hr1 := hsy2 her
    have HREC1 := HREC.out
    rw [bind_bad hr1] at HREC1
    subst HREC1
    have q1 : (er != 0) = true := by simpa using her
    clear hsy1 hsy2 HREC hr1 her hadv
    go_wp2_with fail
    repeat (rw [Exit.noGoto_ret])
    go_returns
    exact ⟨rfl, HF3.out⟩
end Go.Proofs.YtghoifkaikddlaaGreat.Hand
namespace Go.Proofs.YtghoifkaikddlaaGreat.Hand
open Go.RowKit Go.Proofs.YtghoifkaikddlaaGreatW.PrintWords Go.Proofs.YtghoifkaikddlaaGreatW.PrintLast Go.Proofs.YtghoifkaikddlaaGreatW.PrintMore Go.Proofs.YtghoifkaikddlaaGreat.Num Go.Proofs.YtghoifkaikddlaaGreat.Bits
set_option linter.unusedVariables false
set_option linter.unusedSimpArgs false
theorem xor_i64 (a b : Nat) (ha : a < 65536) (hb : b < 65536) : bits .xor .i64 (a : Int) (b : Int) = ((a ^^^ b : Nat) : Int) := by
 have hx : a ^^^ b < 2 ^ 16 := Nat.xor_lt_two_pow (by omega) (by omega)
 have h1 : (BitVec.ofInt 64 (a : Int)).toNat = a := by rw [BitVec.ofInt_natCast, BitVec.toNat_ofNat]; exact Nat.mod_eq_of_lt (by omega)
 have h2 : (BitVec.ofInt 64 (b : Int)).toNat = b := by rw [BitVec.ofInt_natCast, BitVec.toNat_ofNat]; exact Nat.mod_eq_of_lt (by omega)
 show IntKind.i64.wrap ((BitVec.ofInt 64 (a : Int) ^^^ BitVec.ofInt 64 (b : Int)).toNat : Int) = _
 rw [BitVec.toNat_xor, h1, h2, IntKind.wrap_i64]
 omega
theorem xor_not (a : Nat) (ha : a < 65536) : 65535 ^^^ a = 65535 - a := by
 refine Nat.eq_of_testBit_eq (fun i => ?_)
 rw [Nat.testBit_xor, show 65535 - a = 2 ^ 16 - (a + 1) by omega, Nat.testBit_two_pow_sub_succ (by omega), show (65535 : Nat) = 2 ^ 16 - 1 from rfl, Nat.testBit_two_pow_sub_one]
 by_cases hi : i < 16
 ·simp [hi]
 ·have : a.testBit i = false := Nat.testBit_lt_two_pow (Nat.lt_of_lt_of_le ha (Nat.pow_le_pow_right (n := 2) (i := 16) (by decide) (by omega)))
  simp [hi, this]
theorem xor_ff (a b : Nat) (ha : a < 65536) (_hb : b < 65536) : a ^^^ b = 65535 ↔ a + b = 65535 := by
 have h3 := xor_not a ha
 constructor
 ·intro h
  have h2 : b = 65535 ^^^ a := by rw [← h, Nat.xor_comm a b, Nat.xor_assoc, Nat.xor_self, Nat.xor_zero]
  omega
 ·intro h
  have h4 : b = 65535 ^^^ a := by omega
  rw [h4, Nat.xor_comm 65535 a, ← Nat.xor_assoc, Nat.xor_self, Nat.zero_xor]
theorem app_str_wp {P : Program} {o : Oper} {a : Act} {ops : Array Oper} {rest : List Oper} {W : World} {Q : Exit → Act → World → Prop} (B : Nat) (hgd : o.guard = none) (sl x : Operand) (t u e : TypeId)
  (ho : o.op = .call { callee := .builtin .append, args := #[sl, x], argTypes := #[t, u] })
  (ht : P.underlying t = some (.slice e)) (hu : P.underlying u = some .string) (hinfo : (P.info? e).map (fun i => (i.zero, i.size, i.bytes)) = some (some (.int .u8 0), 1, 1))
  (v : Value) (xs : List Int) (s : ByteArray) (hs : a.eval sl = v) (hx : a.eval x = .string s) (HO : Row W B e .u8 v xs) (hB : B ≤ W.heap.size) (h63 : xs.length + s.size ≤ maxLen) (hl : xs.length + s.size ≤ 140737488355328)
  (h : ∀ v1 w1, App W w1 B e .u8 v v1 (xs ++ bytesOf s) → wpList P ops Q rest (a.put o.dst v1) w1) : wpList P ops Q (o :: rest) a W := by
 obtain ⟨i0, hi, hzz⟩ := Option.map_eq_some_iff.1 hinfo
 simp only [Prod.mk.injEq] at hzz
 obtain ⟨hz0, hz1, hz2⟩ := hzz
 refine Go.Lib.wpList_append_own_string W hgd sl x t u ho B e i0 ht hu hi hz0 hz1 hz2 v xs.length (nums .u8 xs) hs HO s hx h63 hl hB (fun v1 w1 hown hg _ => h v1 w1 ⟨?_, hg⟩)
 unfold Row
 have e1 : nums .u8 (bytesOf s) = Go.Lib.strCells s := by simp [nums, bytesOf, Go.Lib.strCells]
 rw [List.length_append, bytesOf_length, nums_append, e1]
 exact hown
theorem InfAt.app0 {w w1 : World} {B x g : Nat} {s : ByteArray} {p : Nat} {o o' : List Int} {m : Int} {v v' : Value} (h : InfAt w B x g s p o m) (hb : w.heap[x]? = some (.cells #[.pointer (some ⟨g, 0, none⟩), v, .int .i64 m] 166 (0, 0))) (hr : Row w B 5 .u8 v o)
  (hap : App w w1 B 5 .u8 v v' o') : InfAt (w1.setCell ⟨x, 1, none⟩ v') B x g s p o' m ∧ Fr w (w1.setCell ⟨x, 1, none⟩ v') (SI B x g w) := by
 have hb1 := hap.blk hr hb (by decide)
 have hb2 := blk_set hb1 1 v'
 have hf1 : Fr w w1 (SI B x g w) := (Fr.of_grown hap.grown).mono (fun k hk hv => by
  refine .inr (.inr ⟨(hr.lt k hv).1, ?_⟩)
  obtain ⟨cs, hc⟩ := hr.blk k hv
  exact ⟨cs, (0, 0), hc⟩)
 have hf2 : Fr w1 (w1.setCell ⟨x, 1, none⟩ v') (· = x) := (Fr.refl _ _).set1 1 v'
 have hrd1 : RdAt w1 g s p := ⟨hap.blk hr h.rd.blk (by decide), h.rd.le⟩
 refine ⟨⟨⟨v', by rw [hb2]; simp, hap.row.fr hf2 (fun k hk => hap.row.ne_blk hb1 (by decide) k hk)⟩, hrd1.fr hf2 (fun e => h.ne e.symm)⟩, hf1.si hf2.siX⟩
theorem get_ok {w : Nat} {s : ByteArray} {m : Int} {p : Nat} {o : List Int} (h : p + w ≤ 8 * s.size) : getM w s m p o = .ok (val s p w) (p + w) o := by unfold getM; rw [if_pos h]
theorem get_bad {w : Nat} {s : ByteArray} {m : Int} {p : Nat} {o : List Int} (h : ¬ p + w ≤ 8 * s.size) : getM w s m p o = .bad 5 := by unfold getM; rw [if_neg h]
set_option maxRecDepth 100000 in
set_option maxHeartbeats 4000000 in
theorem stored_calls (w : World) (B x g : Nat) (s : ByteArray) (p : Nat) (o : List Int) (m : Int) (h : InfAt w B x g s p o m) (hs : s.size ≤ 1000000) (hB : B ≤ w.heap.size) (hm0 : 0 ≤ m) (hm : m ≤ 10000000) (ho : (o.length : Int) ≤ m) (hp : p ≤ 8 * s.size) :
  Calls Tryz.prog 163 #[.pointer (some ⟨x, 0, none⟩)] w fun e w' =>
   Left (storedM s m p o) (fun _ => .int .i64 0) (fun c => .int .i64 c) w' B x g s m e ∧ Fr w w' (SI B x g w) := by
 obtain ⟨res, hres⟩ : ∃ res, res = storedM s m p o := ⟨_, rfl⟩
 rw [← hres]
 unfold storedM at hres
 rw [bind_ok (show alignM s m p o = .ok () (8 * rdAt p) o from rfl)] at hres
 obtain ⟨p1, hp1⟩ : ∃ p1, p1 = 8 * rdAt p := ⟨_, rfl⟩
 have hp1s : p1 ≤ 8 * s.size := by rw [hp1]; unfold rdAt; omega
 have KA := Aside0.mk (rd_align w g s p h.rd (by omega))
 rw [← hp1] at hres KA
 obtain ⟨v0, hb0, _⟩ := h.blk
 have c0 : w.cell? ⟨x, 0, none⟩ = some (.pointer (some ⟨g, 0, none⟩)) := blk_cell hb0 0
 have H0 := Aside0.mk h
 have HRES := Aside0.mk hres
 clear hb0 hp1 h hres
 go_enter Tryz.func163, Tryz.ntmps163
 go_wp2_with fail
 refine KA.out.mono ?_
 rintro e w1 ⟨rfl, h1, f1⟩
 have HI1 := Aside0.mk (H0.out.read h1 f1)
 have HF1 : Aside0 (Fr w w1 (SI B x g w)) := ⟨f1.siR⟩
 clear h1 f1 H0 KA c0
 obtain ⟨v1, hb1, _⟩ := HI1.out.blk
 have c1 : w1.cell? ⟨x, 0, none⟩ = some (.pointer (some ⟨g, 0, none⟩)) := blk_cell hb1 0
 clear hb1
 by_cases h1 : p1 + 16 ≤ 8 * s.size
 ·have hres1 := HRES.out
  rw [bind_ok (get_ok h1)] at hres1
  have K1 := rd_get w1 g s p1 16 HI1.out.rd (by omega) (by omega) h1
  rw [show ((16 : Nat) : Int) = 16 from rfl] at K1
  have hv1 := val_range s p1 16
  obtain ⟨n, hn⟩ := Int.eq_ofNat_of_zero_le hv1.1
  have hn16 : n < 65536 := by have := hv1.2; rw [hn] at this; exact_mod_cast this
  rw [hn] at K1 hres1
  have K1 := Aside0.mk K1
  have HRES := Aside0.mk hres1
  clear hv1 hn hres1
  go_wp2_with fail
  refine K1.out.mono ?_
  rintro e w2 ⟨rfl, h2, f2⟩
  have HI2 := Aside0.mk (HI1.out.read h2 f2)
  have HF2 := Aside0.mk (HF1.out.si f2.siR)
  clear h2 f2 HI1 HF1 K1 c1
  obtain ⟨v2, hb2, _⟩ := HI2.out.blk
  have c2 : w2.cell? ⟨x, 0, none⟩ = some (.pointer (some ⟨g, 0, none⟩)) := blk_cell hb2 0
  clear hb2
  obtain ⟨p2, hp2⟩ : ∃ p2, p2 = p1 + 16 := ⟨_, rfl⟩
  rw [← hp2] at HI2 HRES h1
  by_cases h2 : p2 + 16 ≤ 8 * s.size
  ·have hres1 := HRES.out
   rw [bind_ok (get_ok h2)] at hres1
   have K1 := rd_get w2 g s p2 16 HI2.out.rd (by omega) (by omega) h2
   rw [show ((16 : Nat) : Int) = 16 from rfl] at K1
   have hv1 := val_range s p2 16
   obtain ⟨k, hk⟩ := Int.eq_ofNat_of_zero_le hv1.1
   have hk16 : k < 65536 := by have := hv1.2; rw [hk] at this; exact_mod_cast this
   rw [hk] at K1 hres1
   have hxor := xor_i64 n k hn16 hk16
   have hxf := xor_ff n k hn16 hk16
   have K1 := Aside0.mk K1
   have HRES := Aside0.mk hres1
   clear hv1 hk hres1
   go_wp2_with fail
   refine K1.out.mono ?_
   rintro e w3 ⟨rfl, h3, f3⟩
   have HI3 := Aside0.mk (HI2.out.read h3 f3)
   have HF3 := Aside0.mk (HF2.out.si f3.siR)
   clear h3 f3 HI2 HF2 K1 c2
   obtain ⟨v3, hb3, _⟩ := HI3.out.blk
   have c3 : w3.cell? ⟨x, 0, none⟩ = some (.pointer (some ⟨g, 0, none⟩)) := blk_cell hb3 0
   clear hb3
   obtain ⟨p3, hp3⟩ : ∃ p3, p3 = p2 + 16 := ⟨_, rfl⟩
   rw [← hp3] at HI3 HRES h2
   clear h1 hp2
   by_cases hnm : n + k = 65535
   ·have q1 : (((n ^^^ k : Nat) : Int) != 65535) = false := by rw [hxf.2 hnm]; decide
    have q1n : ((n ^^^ k) != 65535) = false := by rw [hxf.2 hnm]; decide
    have HRES1 := HRES.out
    rw [if_neg (by simp; omega), Int.toNat_natCast] at HRES1
    clear HRES hxf hnm
    by_cases h3 : rdAt p3 + n ≤ s.size
    ·rw [bind_ok (show bytesM n s m p3 o = .ok (bytesOf (s.extract (rdAt p3) (rdAt p3 + n))) (8 * (rdAt p3 + n)) o by unfold bytesM; rw [if_pos h3])] at HRES1
     have K3 := rd_bytes w3 g s p3 n HI3.out.rd (by omega) h3
     obtain ⟨sx, hsx⟩ : ∃ sx, sx = s.extract (rdAt p3) (rdAt p3 + n) := ⟨_, rfl⟩
     have hsz : sx.size = n := by rw [hsx, ByteArray.size_extract]; omega
     obtain ⟨p4, hp4⟩ : ∃ p4, p4 = 8 * (rdAt p3 + n) := ⟨_, rfl⟩
     rw [← hsx, ← hp4] at K3 HRES1
     have K3 := Aside0.mk K3
     have HSZ := Aside0.mk hsz
     have HRES := Aside0.mk HRES1
     clear hsx hp4 h3 HRES1 hsz
     go_wp2_with fail
     refine K3.out.mono ?_
     rintro e w4 ⟨rfl, h4, f4⟩
     have HI4 := Aside0.mk (HI3.out.read h4 f4)
     have HF4 := Aside0.mk (HF3.out.si f4.siR)
     clear h4 f4 HI3 HF3 K3 c3
     have KM := Aside0.mk (room_calls w4 B x g s p4 o m n HI4.out hm0 (by omega) (by omega) (by omega) (by omega))
     have HRES1 := HRES.out
     unfold outM at HRES1
     rw [bytesOf_length, HSZ.out] at HRES1
     clear HRES
     by_cases hroom : m - (o.length : Int) < (n : Int)
     ·rw [if_pos hroom] at HRES1 KM
      subst HRES1
      go_wp2_with fail
      refine KM.out.mono ?_
      rintro e w5 ⟨rfl, hd5⟩
      have HF5 := Aside0.mk (HF4.out.then_ (Fr.of_drawn hd5 _))
      clear hd5 KM HI4 HF4
      go_wp2_with fail
      repeat (rw [Exit.noGoto_ret])
      go_returns
      exact ⟨rfl, HF5.out⟩
     ·rw [if_neg hroom] at HRES1 KM
      subst HRES1
      go_wp2_with fail
      refine KM.out.mono ?_
      rintro e w5 ⟨rfl, hd5⟩
      have HI5 := Aside0.mk (HI4.out.drawn hd5)
      have HF5 := Aside0.mk (HF4.out.then_ (Fr.of_drawn hd5 _))
      clear hd5 KM HI4 HF4
      obtain ⟨v5, hb5, hr5⟩ := HI5.out.blk
      obtain ⟨A5, n5, k5, hv5, hn5⟩ := hr5.shape
      subst hv5
      have HR5 : Aside0 (_ ∧ _) := ⟨hb5, hr5⟩
      have c5 : w5.cell? ⟨x, 1, none⟩ = some (.slice A5 n5 k5) := blk_cell hb5 1
      have hBw : B ≤ w5.heap.size := Nat.le_trans hB HF5.out.size
      have hl1 : o.length + sx.size ≤ maxLen := by rw [HSZ.out]; unfold maxLen; omega
      have hl2 : o.length + sx.size ≤ 140737488355328 := by rw [HSZ.out]; omega
      clear hb5 hr5 hn5
      go_wp2_with (at_builtin; refine app_str_wp B rfl _ _ 59 9 5 rfl Tryz.underlying59 Tryz.underlying9 infoU8' (.slice A5 n5 k5) o sx rfl rfl HR5.out.2 hBw hl1 hl2 ?_; intro v8 w8 hap; obtain ⟨A8, n8, k8, hv8, hn8⟩ := hap.row.shape; subst hv8; have hb8 := hap.blk HR5.out.2 HR5.out.1 (by decide); have f8 := blk_frozen hb8 1; have d8 : w8.cell? ⟨x, 1, none⟩ = some (.slice A5 n5 k5) := blk_cell hb8 1)
      have HK := Aside0.mk (HI5.out.app0 HR5.out.1 HR5.out.2 hap)
      go_returns
      exact ⟨⟨rfl, HK.out.1⟩, HF5.out.si HK.out.2⟩
    ·rw [bind_bad (show bytesM n s m p3 o = .bad 5 by unfold bytesM; rw [if_neg h3])] at HRES1
     have K3 := Aside0.mk (rd_bytes_short w3 g s p3 n HI3.out.rd (by omega) (by omega))
     subst HRES1
     go_wp2_with fail
     refine K3.out.mono ?_
     rintro e w4 ⟨rfl, hd4⟩
     have HF4 := Aside0.mk (HF3.out.then_ (Fr.of_drawn hd4 _))
     clear hd4 HI3 HF3 K3
     go_wp2_with fail
     repeat (rw [Exit.noGoto_ret])
     go_returns
     exact ⟨rfl, HF4.out⟩
   ·have hx2 : n ^^^ k ≠ 65535 := fun h => hnm (hxf.1 h)
    have q1 : (((n ^^^ k : Nat) : Int) != 65535) = true := by simp; omega
    have q1n : ((n ^^^ k) != 65535) = true := by simpa using hx2
    have HRES1 := HRES.out
    rw [if_pos (by omega)] at HRES1
    unfold RM.err at HRES1
    subst HRES1
    clear HRES hxf hx2 hnm
    go_wp2_with fail
    repeat (rw [Exit.noGoto_ret])
    go_returns
    exact ⟨rfl, HF3.out⟩
  ·have hres1 := HRES.out
   rw [bind_bad (get_bad h2)] at hres1
   have K1 := rd_get_short w2 g s p2 16 HI2.out.rd (by omega) (by omega) (by omega)
   rw [show ((16 : Nat) : Int) = 16 from rfl] at K1
   have K1 := Aside0.mk K1
   subst hres1
   go_wp2_with fail
   refine K1.out.mono ?_
   rintro e w3 ⟨rfl, hd3⟩
   have HF3 := Aside0.mk (HF2.out.then_ (Fr.of_drawn hd3 _))
   clear hd3 HI2 HF2 K1 c2
   go_wp2_with fail
   repeat (rw [Exit.noGoto_ret])
   go_returns
   exact ⟨rfl, HF3.out⟩
 ·have hres1 := HRES.out
  rw [bind_bad (get_bad h1)] at hres1
  have K1 := rd_get_short w1 g s p1 16 HI1.out.rd (by omega) (by omega) (by omega)
  rw [show ((16 : Nat) : Int) = 16 from rfl] at K1
  have K1 := Aside0.mk K1
  subst hres1
  go_wp2_with fail
  refine K1.out.mono ?_
  rintro e w2 ⟨rfl, hd2⟩
  have HF2 := Aside0.mk (HF1.out.then_ (Fr.of_drawn hd2 _))
  clear hd2 HI1 HF1 K1 c1
  go_wp2_with fail
  repeat (rw [Exit.noGoto_ret])
  go_returns
  exact ⟨rfl, HF2.out⟩
end Go.Proofs.YtghoifkaikddlaaGreat.Hand
namespace Go.Proofs.YtghoifkaikddlaaGreat.Hand
open Go.RowKit Go.Proofs.YtghoifkaikddlaaGreatW.PrintWords Go.Proofs.YtghoifkaikddlaaGreatW.PrintLast Go.Proofs.YtghoifkaikddlaaGreatW.PrintMore Go.Proofs.YtghoifkaikddlaaGreat.Num Go.Proofs.YtghoifkaikddlaaGreat.Bits
set_option linter.unusedVariables false
set_option linter.unusedSimpArgs false
theorem reads_blk {w : World} {g : Nat} {t : TypeId} {cs : List Int} (h : w.heap[g]? = some (.cells (nums .i64 cs).toArray t (0, 0))) (hl : cs.length ≤ 9223372036854775807) : ReadsInt w .i64 (some ⟨g, 0, none⟩) cs.length cs :=
 ⟨rfl, hl, fun _ => ⟨_, rfl, fun j hj => by rw [Addr.add_lit, Nat.zero_add]; exact (blk_cell h j).trans (nums_at cs j hj)⟩⟩
theorem fix_may : mayF fixLit = 0 := by decide +kernel
theorem fix_may2 : mayF fixDist = 0 := by decide +kernel
theorem fixLit_at : ∀ i, i < 288 → fixLit.getD i 0 = if i < 144 ∨ 280 ≤ i then 8 else if i < 256 then 9 else 7 := by
 have h : (List.range 288).all (fun i => decide (fixLit.getD i 0 = if i < 144 ∨ 280 ≤ i then 8 else if i < 256 then 9 else 7)) = true := by decide +kernel
 intro i hi
 simpa using List.all_eq_true.1 h i (List.mem_range.2 hi)
def upto (l : List Int) (n i : Nat) : List Int := l.take i ++ List.replicate (n - i) 0
theorem upto_length (l : List Int) (n i : Nat) (hl : l.length = n) (hi : i ≤ n) : (upto l n i).length = n := by rw [upto, List.length_append, List.length_take, List.length_replicate]; omega
theorem upto_set (l : List Int) (n i : Nat) (hl : l.length = n) (hi : i < n) : (upto l n i).set i (l.getD i 0) = upto l n (i + 1) := by
 unfold upto
 rw [List.set_append_right _ _ (by rw [List.length_take]; omega), List.length_take, show i - min i l.length = 0 by omega, show n - i = (n - (i + 1)) + 1 by omega, List.replicate_succ, List.set_cons_zero, take_succ9 l i (by omega), List.append_assoc]
 rfl
set_option maxRecDepth 100000 in
set_option maxHeartbeats 4000000 in
theorem fixed_calls (w : World) (B x g : Nat) (s : ByteArray) (p : Nat) (o : List Int) (m : Int) (k : Nat) (h : InfAt w B x g s p o m) (hs : s.size ≤ 1000000) (hB : B ≤ w.heap.size) (hm0 : 0 ≤ m) (hm : m ≤ 10000000) (ho : (o.length : Int) ≤ m) (hp : p ≤ 8 * s.size) (hk : 8 * s.size < p + k) :
  Calls Tryz.prog 164 #[.pointer (some ⟨x, 0, none⟩)] w fun e w' =>
   Left (codedM fixLit fixDist k s m p o) (fun _ => .int .i64 0) (fun c => .int .i64 c) w' B x g s m e ∧ Fr w w' (SI B x g w) := by
 have H0 := Aside0.mk h
 obtain ⟨res, hres⟩ : ∃ res, res = codedM fixLit fixDist k s m p o := ⟨_, rfl⟩
 rw [← hres]
 have HRES := Aside0.mk hres
 clear h hres
 go_enter Tryz.func164, Tryz.ntmps164
 go_wp2_with fail
 obtain ⟨a, ha⟩ : ∃ a, a = w.heap.size := ⟨_, rfl⟩
 generalize hW : World.alloc w _ = W1
 have hb1 : Below w.heap.size w W1 := by rw [← hW]; exact below_alloc (Below.refl _ _) _
 have hA : W1.heap[a]? = some (.cells (nums .i64 (upto fixLit 288 0)).toArray 172 (0, 0)) := by rw [← hW, ha]; exact heap_alloc_new w _
 have H1 : Aside0 (_ ∧ _) := ⟨hA, hb1⟩
 have hga : w.heap.size ≤ a := by omega
 rw [← ha]
 clear hW hA hb1 ha
 go_loopw [11] (fun v11 wr => ∃ (i : Nat), v11 = .int .i64 i ∧ i ≤ 288 ∧ Aside0 (wr.heap[a]? = some (.cells (nums .i64 (upto fixLit 288 i)).toArray 172 (0, 0)) ∧ Below w.heap.size w wr)) (fun v11 _ => 288 - (intOf v11).toNat)
 case atStart => exact ⟨0, rfl, by omega, H1⟩
 case round =>
  clear H1
  obtain ⟨i, rfl, hi, HW⟩ := hrel
  by_cases hlt : i < 288
  ·have q1 : decide ((i : Int) < 288) = true := decide_eq_true (by omega)
   have q1n : decide (i < 288) = true := decide_eq_true hlt
   have hfl : fixLit.length = 288 := by decide +kernel
   have hul := upto_length fixLit 288 i hfl hi
   have hus := upto_set fixLit 288 i hfl hlt
   rw [fixLit_at i hlt] at hus
   obtain ⟨cs, hcs⟩ : ∃ cs, cs = upto fixLit 288 i := ⟨_, rfl⟩
   rw [← hcs] at hul hus HW
   have d1 : wr.cell? ⟨a, i, none⟩ = some (.int .i64 (cs.getD i 0)) := (blk_cell HW.out.1 i).trans (nums_at cs i (by omega))
   have d2 := blk_frozen HW.out.1 i
   have hix0 : (0 : Int) ≤ (i : Int) := by omega
   have hix1 : (i : Int) < 288 := by omega
   clear hcs hul hfl
   by_cases h144 : i < 144
   ·have r1 : decide ((i : Int) < 144) = true := decide_eq_true (by omega)
    have r1n : decide (i < 144) = true := decide_eq_true h144
    rw [if_pos (.inl h144)] at hus
    have HU := Aside0.mk hus
    clear hus
    go_wp2_with fail
    go_roundw
    case rel => exact ⟨i + 1, by go_num, by omega, by rw [← HU.out]; refine (blk_set HW.out.1 i _).trans ?_; simp [nums, List.map_set], HW.out.2.setCell (p := ⟨a, i, none⟩) hga _⟩
    case measure => simp [intOf]; omega
   ·have r1 : decide ((i : Int) < 144) = false := decide_eq_false (by omega)
    have r1n : decide (i < 144) = false := decide_eq_false h144
    by_cases h280 : 280 ≤ i
    ·have r2 : decide (280 ≤ (i : Int)) = true := decide_eq_true (by omega)
     have r2n : decide (280 ≤ i) = true := decide_eq_true h280
     rw [if_pos (.inr h280)] at hus
     have HU := Aside0.mk hus
     clear hus
     go_wp2_with fail
     go_roundw
     case rel => exact ⟨i + 1, by go_num, by omega, by rw [← HU.out]; refine (blk_set HW.out.1 i _).trans ?_; simp [nums, List.map_set], HW.out.2.setCell (p := ⟨a, i, none⟩) hga _⟩
     case measure => simp [intOf]; omega
    ·have r2 : decide (280 ≤ (i : Int)) = false := decide_eq_false (by omega)
     have r2n : decide (280 ≤ i) = false := decide_eq_false h280
     rw [if_neg (by omega)] at hus
     by_cases h256 : i < 256
     ·have r3 : decide ((i : Int) < 256) = true := decide_eq_true (by omega)
      have r3n : decide (i < 256) = true := decide_eq_true h256
      rw [if_pos h256] at hus
      have HU := Aside0.mk hus
      clear hus
      go_wp2_with fail
      go_roundw
      case rel => exact ⟨i + 1, by go_num, by omega, by rw [← HU.out]; refine (blk_set HW.out.1 i _).trans ?_; simp [nums, List.map_set], HW.out.2.setCell (p := ⟨a, i, none⟩) hga _⟩
      case measure => simp [intOf]; omega
     ·have r3 : decide ((i : Int) < 256) = false := decide_eq_false (by omega)
      have r3n : decide (i < 256) = false := decide_eq_false h256
      rw [if_neg h256] at hus
      have HU := Aside0.mk hus
      clear hus
      go_wp2_with fail
      go_roundw
      case rel => exact ⟨i + 1, by go_num, by omega, by rw [← HU.out]; refine (blk_set HW.out.1 i _).trans ?_; simp [nums, List.map_set], HW.out.2.setCell (p := ⟨a, i, none⟩) hga _⟩
      case measure => simp [intOf]; omega
  ·have q1 : decide ((i : Int) < 288) = false := decide_eq_false (by omega)
   have q1n : decide (i < 288) = false := decide_eq_false hlt
   obtain rfl : i = 288 := by omega
   rw [show upto fixLit 288 288 = fixLit by decide +kernel] at HW
   obtain ⟨fl, hfl⟩ : ∃ fl, fl = fixLit := ⟨_, rfl⟩
   rw [← hfl] at HW ⊢
   have HFL := Aside0.mk hfl
   clear hfl hlt
   go_wp2_with fail
   obtain ⟨b, hb⟩ : ∃ b, b = wr.heap.size := ⟨_, rfl⟩
   generalize hW : World.alloc wr _ = W2
   have hb2 : Below wr.heap.size wr W2 := by rw [← hW]; exact below_alloc (Below.refl _ _) _
   have hA2 : W2.heap[b]? = some (.cells (nums .i64 (upto fixDist 32 0)).toArray 173 (0, 0)) := by rw [← hW, hb]; exact heap_alloc_new wr _
   have H2 : Aside0 (_ ∧ _ ∧ _) := ⟨blk_below HW.out.1 hb2, hA2, HW.out.2.trans (hb2.mono HW.out.2.size)⟩
   have hgb : w.heap.size ≤ b := by rw [hb]; exact HW.out.2.size
   have hab : a ≠ b := by have := blk_lt HW.out.1; omega
   rw [← hb]
   clear hW hA2 hb2 hb HW
   go_loopw [31] (fun v31 wr => ∃ (i : Nat), v31 = .int .i64 i ∧ i ≤ 32 ∧ Aside0 (wr.heap[a]? = some (.cells (nums .i64 fl).toArray 172 (0, 0)) ∧ wr.heap[b]? = some (.cells (nums .i64 (upto fixDist 32 i)).toArray 173 (0, 0)) ∧ Below w.heap.size w wr)) (fun v31 _ => 32 - (intOf v31).toNat)
   case atStart => exact ⟨0, rfl, by omega, H2⟩
   case round =>
    clear H2
    obtain ⟨i, rfl, hi, HW⟩ := hrel
    by_cases hlt : i < 32
    ·have q1 : decide ((i : Int) < 32) = true := decide_eq_true (by omega)
     have q1n : decide (i < 32) = true := decide_eq_true hlt
     have hfl : fixDist.length = 32 := by decide +kernel
     have hul := upto_length fixDist 32 i hfl hi
     have hus := upto_set fixDist 32 i hfl hlt
     rw [show fixDist.getD i 0 = 5 by unfold fixDist; rw [List.getD_eq_getElem?_getD, List.getElem?_replicate, if_pos hlt]; rfl] at hus
     obtain ⟨cs, hcs⟩ : ∃ cs, cs = upto fixDist 32 i := ⟨_, rfl⟩
     rw [← hcs] at hul hus HW
     have d1 : wr.cell? ⟨b, i, none⟩ = some (.int .i64 (cs.getD i 0)) := (blk_cell HW.out.2.1 i).trans (nums_at cs i (by omega))
     have d2 := blk_frozen HW.out.2.1 i
     have hix0 : (0 : Int) ≤ (i : Int) := by omega
     have hix1 : (i : Int) < 32 := by omega
     have HU := Aside0.mk hus
     clear hcs hul hfl hus
     go_wp2_with fail
     go_roundw
     case rel => exact ⟨i + 1, by go_num, by omega, (heap_setCell_other _ _ _ _ (show a ≠ b from hab)).trans HW.out.1, by rw [← HU.out]; refine (blk_set HW.out.2.1 i _).trans ?_; simp [nums, List.map_set], HW.out.2.2.setCell (p := ⟨b, i, none⟩) hgb _⟩
     case measure => simp [intOf]; omega
    ·have q1 : decide ((i : Int) < 32) = false := decide_eq_false (by omega)
     have q1n : decide (i < 32) = false := decide_eq_false hlt
     obtain rfl : i = 32 := by omega
     rw [show upto fixDist 32 32 = fixDist by decide +kernel] at HW
     obtain ⟨fd, hfd⟩ : ∃ fd, fd = fixDist := ⟨_, rfl⟩
     rw [← hfd] at HW ⊢
     have hll : fl.length = 288 := by rw [HFL.out]; decide +kernel
     have hdl : fd.length = 32 := by rw [hfd]; decide +kernel
     have hml : mayF fl = 0 := by rw [HFL.out]; exact fix_may
     have hmd : mayF fd = 0 := by rw [hfd]; exact fix_may2
     have HRS : Aside0 (res = codedM fl fd k s m p o) := ⟨by rw [HRES.out, HFL.out, hfd]⟩
     have K1 := fun (W : World) (h : Below wr.heap.size wr W) => new_ok (some ⟨a, 0, none⟩) 288 fl W (reads_blk (blk_below HW.out.1 h) (by omega)) (by omega) hml
     have K2 := fun (W : World) (h : Below wr.heap.size wr W) => new_ok (some ⟨b, 0, none⟩) 32 fd W (reads_blk (blk_below HW.out.2.1 h) (by omega)) (by omega) hmd
     rw [hll] at K1
     rw [hdl] at K2
     have K1 := Aside0.mk K1
     have K2 := Aside0.mk K2
     have HM : Aside0 (_ ∧ _) := ⟨hml, hmd⟩
     have HIw := Aside0.mk (H0.out.below HW.out.2.2)
     have HBw := Aside0.mk HW.out.2.2
     clear hll hdl hml hmd hfd hlt HFL HW H0
     go_wp2_with fail
     refine (K1.out wr (Below.refl _ _)).mono ?_
     rintro e w1 ⟨ta, rfl, ht1, htb1, hb1⟩
     have HI1 := Aside0.mk (HIw.out.below hb1)
     have HT1 : Aside0 (Tr w1 wr.heap.size ta fl) := ⟨ht1⟩
     have HB1 := Aside0.mk hb1
     clear ht1 htb1 hb1 K1
     go_wp2_with fail
     refine (K2.out w1 HB1.out).mono ?_
     rintro e w2 ⟨tb, rfl, ht2, htb2, hb2⟩
     have HI2 := Aside0.mk (HI1.out.below hb2)
     have HT2 : Aside0 (Tr w2 wr.heap.size ta fl ∧ Tr w2 w1.heap.size tb fd) := ⟨TreeAt.below HT1.out hb2, ht2⟩
     have HB2 : Aside0 (Below w.heap.size w w2) := ⟨HBw.out.trans ((HB1.out.trans (hb2.mono HB1.out.size)).mono HBw.out.size)⟩
     clear ht2 htb2 hb2 K2 HI1 HT1 HB1 HIw HBw
     go_wp2_with fail
     refine (coded_calls w2 B wr.heap.size w1.heap.size x g ta tb fl fd s p o m k HI2.out HT2.out.1 HT2.out.2 HM.out.1 HM.out.2 hs (Nat.le_trans hB HB2.out.size) hm0 hm ho hp hk).mono ?_
     rintro e w3 ⟨hl3, hf3⟩
     have HF3 := Aside0.mk ((Fr.of_below HB2.out (SI B x g w)).si hf3)
     cases hr : codedM fl fd k s m p o with
     | bad c =>
      rw [hr] at hl3
      have hrs := HRS.out
      rw [hr] at hrs
      subst hrs
      obtain rfl := hl3
      go_wp2_with fail
      go_returns
      exact ⟨rfl, HF3.out⟩
     | ok u q r =>
      rw [hr] at hl3
      have hrs := HRS.out
      rw [hr] at hrs
      subst hrs
      obtain ⟨rfl, hi3⟩ := hl3
      go_wp2_with fail
      go_returns
      exact ⟨⟨rfl, hi3⟩, HF3.out⟩
end Go.Proofs.YtghoifkaikddlaaGreat.Hand
namespace Go.Proofs.YtghoifkaikddlaaGreat.Hand
open Go.RowKit Go.Proofs.YtghoifkaikddlaaGreatW.PrintWords Go.Proofs.YtghoifkaikddlaaGreatW.PrintLast Go.Proofs.YtghoifkaikddlaaGreatW.PrintMore Go.Proofs.YtghoifkaikddlaaGreat.Num Go.Proofs.YtghoifkaikddlaaGreat.Bits
set_option linter.unusedVariables false
set_option linter.unusedSimpArgs false
def orderZ : List Int := orderT.map (fun n : Nat => (n : Int))
theorem aggInt (W : World) : (isAgg 3).run Tryz.prog W = .ok false W := by
 unfold isAgg; rw [Sem.run_bind, run_underlying Tryz.underlying3 W]; rfl
theorem infoInt1 : (Tryz.prog.info? 3).map (·.size) = some 1 := by kernel_rfl
theorem run_index_ints {P : Program} (W : World) (t e : TypeId) (n : Nat) (ie : TypeInfo) (ht : P.underlying t = some (.array n e)) (hagg : (isAgg e).run P W = .ok false W) (hie : P.info? e = some ie) (hsz : ie.size = 1)
  (T : List Int) (hn : T.length = n) (i : Nat) (hi : i < n) :
  (Instr.index t (.agg (nums .i64 T).toArray) (.int .i64 (i : Int))).run P W = .ok (.int .i64 (T.getD i 0)) W := by
 have h0 : (0 ≤ (i : Int) ∧ (i : Int) < (n : Int)) := by omega
 have hx : (nums .i64 T).toArray[i]? = some (.int .i64 (T.getD i 0)) := nums_at T i (by omega)
 have hx2 : (nums .i64 T)[i]? = some (.int .i64 (T.getD i 0)) := by simpa using hx
 simp only [Instr.index, asIntOf, run_underlying ht, h0, sizeOf, typeInfo, hie, hsz, part, Sem.run_bind, hagg, Sem.run_pure, Result.andThen_ok]
 simp [hi, hie, hsz, hx2, Sem.run_bind, hagg]
theorem index_order (W : World) (i : Nat) (hi : i < 19) : (Instr.index 208 (.agg (nums .i64 orderZ).toArray) (.int .i64 (i : Int))).run Tryz.prog W = .ok (.int .i64 ((orderT.getD i 0 : Nat) : Int)) W := by
 obtain ⟨ie, hie, hsz⟩ := Option.map_eq_some_iff.1 infoInt1
 rw [run_index_ints W _ 3 19 ie Tryz.underlying208 (aggInt W) hie hsz orderZ rfl i hi]
 have : orderZ.getD i 0 = ((orderT.getD i 0 : Nat) : Int) := by
  rw [List.getD_eq_getElem?_getD, List.getD_eq_getElem?_getD, orderZ, List.getElem?_map]
  cases orderT[i]? <;> rfl
 rw [this]
theorem infoOrd : (Tryz.prog.info? 208).map (·.size) = some 19 := by kernel_rfl
theorem order_lt : ∀ i, i < 19 → orderT.getD i 0 < 19 := by decide
set_option maxRecDepth 100000 in
set_option maxHeartbeats 4000000 in
theorem order_calls (w : World) : Calls Tryz.prog 182 #[] w fun e w' => e = .returned (.agg (nums .i64 orderZ).toArray) ∧ Below w.heap.size w w' := by
 go_enter Tryz.func182, Tryz.ntmps182
 obtain ⟨sv, hsv⟩ : ∃ sv : List Int, sv = orderZ := ⟨_, rfl⟩
 have hl : sv.length = 19 := by rw [hsv]; rfl
 rw [← hsv]
 have HS := Aside0.mk hsv
 have HL : Aside0 ((nums .i64 sv).length = 19) := ⟨by rw [nums_length]; exact hl⟩
 clear hsv hl
 go_wp2_with (first | (refine wpList_buildTo rfl 208 _ rfl _ rfl (nums .i64 sv).toArray (by rw [HS.out]; kernel_rfl) ?_) | (refine wpList_store_mid rfl 208 _ _ rfl w.heap.size 0 (nums .i64 sv).toArray rfl rfl (arr_there (cs := List.replicate 19 (.int .i64 0)) (t := 208) (heap_alloc_new w _) _ (by rw [List.size_toArray, HL.out]; rfl)) (by rw [infoOrd]; simpa using HL.out.symm) (all_oneCell_toArray (nums_one _ _)) ?_))
 exact bodyPost_ret (results_cell_row Tryz.results182 _ _ w.heap.size 208 (nums .i64 sv).toArray (0, 0) _ rfl (setCells_blk (cs := List.replicate 19 (.int .i64 0)) (heap_alloc_new w _) (by rw [HL.out]; rfl)) Tryz.underlying208 rfl (by rw [infoOrd]; simpa using HL.out.symm)) rfl ⟨rfl, ((Below.refl _ _).alloc (Nat.le_refl _) _).trans ((setCells_fr w.heap.size (nums .i64 sv) 0 _).below (by rintro k rfl; exact Nat.le_refl _) (by simp))⟩
structure HdMid (w W : World) (B x g a : Nat) (s : ByteArray) (p : Nat) (o : List Int) (m : Int) (l : List Int) : Prop where
 inf : InfAt W B x g s p o m
 blk : W.heap[a]? = some (.cells (nums .i64 l).toArray 208 (0, 0))
 fr : Fr w W (SI B x g w)
 len : l.length = 19
def HdLeft (r : Res (List Int)) (D : Nat) (w' : World) (B x g : Nat) (s : ByteArray) (m : Int) (e : Ending) : Prop := match r with
 | .bad c => e = .returned (.tuple #[.pointer none, .int .i64 c])
 | .ok l q r => ∃ tb, e = .returned (.tuple #[.pointer (some ⟨tb, 0, none⟩), .int .i64 0]) ∧ Tr w' D tb l ∧ mayF l = 0 ∧ l.length = 19 ∧ InfAt w' B x g s q r m
theorem chk_may {l : List Int} (h : chkF l = 0) : mayF l = 0 := by unfold mayF; rw [h]; decide
set_option maxRecDepth 100000 in
set_option maxHeartbeats 4000000 in
theorem heads_calls (w : World) (B x g many : Nat) (s : ByteArray) (p : Nat) (o : List Int) (m : Int) (h : InfAt w B x g s p o m) (hs : s.size ≤ 1000000) (hB : B ≤ w.heap.size) (hp : p ≤ 8 * s.size) (hmany : many ≤ 100) :
  Calls Tryz.prog 174 #[.pointer (some ⟨x, 0, none⟩), .int .i64 (many : Int)] w fun e w' =>
   HdLeft (headsM many s m p o) w.heap.size w' B x g s m e ∧ Fr w w' (SI B x g w) := by
 obtain ⟨res, hres⟩ : ∃ res, res = headsM many s m p o := ⟨_, rfl⟩
 rw [← hres]
 have HRES := Aside0.mk hres
 have H0 := Aside0.mk h
 have hxl : x < w.heap.size := by obtain ⟨v, hb, _⟩ := h.blk; exact blk_lt hb
 have hgl : g < w.heap.size := blk_lt h.rd.blk
 have HXG : Aside0 (_ ∧ _) := ⟨hxl, hgl⟩
 clear h hres hxl hgl
 go_enter Tryz.func174, Tryz.ntmps174
 go_wp2_with fail
 obtain ⟨sv, hsv⟩ : ∃ sv : List Int, sv = orderZ := ⟨_, rfl⟩
 have KO := Aside0.mk (fun W => order_calls W)
 have KI := Aside0.mk (fun (W : World) (i : Nat) (hi : i < 19) => index_order W i hi)
 rw [← hsv] at KO KI
 clear hsv
 refine (KO.out _).mono ?_
 rintro e w1 ⟨rfl, hb1⟩
 have hbz := (below_alloc (Below.refl w.heap.size w) (.cells (nums .i64 (List.replicate 19 0)).toArray 208)).trans (hb1.mono (by simp))
 have hA : w1.heap[w.heap.size]? = some (.cells (nums .i64 (List.replicate 19 0)).toArray 208 (0, 0)) := blk_below (heap_alloc_new w _) hb1
 have H1 : Aside0 (HdMid w w1 B x g w.heap.size s p o m (List.replicate 19 0)) := ⟨⟨H0.out.below hbz, hA, Fr.of_below hbz _, by simp⟩⟩
 clear hb1 hbz hA H0 KO
 obtain ⟨a, ha⟩ : ∃ a, a = w.heap.size := ⟨_, rfl⟩
 rw [← ha] at H1
 have HA := Aside0.mk ha
 have HRS : Aside0 (res = ((headsL many 19 0 (List.replicate 19 0)).bind fun l => if chkF l ≠ 0 then RM.err 4 else RM.ret l) s m p o) := ⟨HRES.out⟩
 rw [← ha]
 clear ha HRES
 go_upto_block 0 with fail
 go_cut [] (fun wc => ∃ (p1 : Nat) (l : List Int), p1 ≤ 8 * s.size ∧ Aside0 (HdMid w wc B x g a s p1 o m l ∧ res = (if chkF l ≠ 0 then RM.err 4 else RM.ret l : RM (List Int)) s m p1 o))
 case first =>
  go_wp2_with fail
  go_loopw [12] (fun v12 wr => ∃ (i p1 : Nat) (l : List Int), v12 = .int .i64 i ∧ i ≤ 19 ∧ p1 ≤ 8 * s.size ∧ Aside0 (HdMid w wr B x g a s p1 o m l ∧ res = ((headsL many (19 - i) i l).bind fun l => if chkF l ≠ 0 then RM.err 4 else RM.ret l) s m p1 o)) (fun v12 _ => 19 - (intOf v12).toNat)
  case atStart => exact ⟨0, p, _, rfl, by omega, hp, H1.out, HRS.out⟩
  case round =>
   clear H1 HRS
   obtain ⟨i, p1, l, rfl, hi, hp1, HW⟩ := hrel
   have hrec := HW.out.2
   by_cases hlt : i < 19
   ·have q1 : decide ((i : Int) < 19) = true := decide_eq_true (by omega)
    have q1n : decide (i < 19) = true := decide_eq_true hlt
    have hx := fun W => KI.out W i hlt
    obtain ⟨k, hk⟩ : ∃ k, k = orderT.getD i 0 := ⟨_, rfl⟩
    have hk19 : k < 19 := by rw [hk]; exact order_lt i hlt
    rw [← hk] at hx
    rw [show 19 - i = (19 - (i + 1)) + 1 by omega, headsL, ← hk] at hrec
    by_cases hmy : i < many
    ·have q2 : decide ((many : Int) ≤ (i : Int)) = false := decide_eq_false (by omega)
     have q2n : decide (many ≤ i) = false := decide_eq_false (by omega)
     rw [if_pos hmy] at hrec
     obtain ⟨v1, hb1, _⟩ := HW.out.1.inf.blk
     have c1 : wr.cell? ⟨x, 0, none⟩ = some (.pointer (some ⟨g, 0, none⟩)) := blk_cell hb1 0
     clear hb1 hk
     by_cases h3 : p1 + 3 ≤ 8 * s.size
     ·have K1 := rd_get wr g s p1 3 HW.out.1.inf.rd (by omega) (by omega) h3
      rw [show ((3 : Nat) : Int) = 3 from rfl] at K1
      obtain ⟨y, hy⟩ : ∃ y, y = val s p1 3 := ⟨_, rfl⟩
      rw [show (((getM 3).bind fun n => headsL many (19 - (i + 1)) (i + 1) (l.set k n)).bind fun l => if chkF l ≠ 0 then RM.err 4 else RM.ret l) s m p1 o = ((headsL many (19 - (i + 1)) (i + 1) (l.set k (val s p1 3))).bind fun l => if chkF l ≠ 0 then RM.err 4 else RM.ret l) s m (p1 + 3) o by unfold RM.bind; rw [get_ok h3]] at hrec
      rw [← hy] at K1 hrec
      have K1 := Aside0.mk K1
      have HREC := Aside0.mk hrec
      clear hy hrec
      go_wp2_with fail
      refine K1.out.mono ?_
      rintro e w2 ⟨rfl, h2, f2⟩
      have hag : ¬ a = g := by have := HXG.out.2; have := HA.out; omega
      have HW2 : Aside0 (HdMid w w2 B x g a s (p1 + 3) o m l) := ⟨⟨HW.out.1.inf.read h2 f2, f2.blk HW.out.1.blk hag, HW.out.1.fr.si f2.siR, HW.out.1.len⟩⟩
      clear h2 f2 HW K1 c1 hag
      have d1 : w2.cell? ⟨a, k, none⟩ = some (.int .i64 (l.getD k 0)) := (blk_cell HW2.out.blk k).trans (nums_at l k (by rw [HW2.out.len]; exact hk19))
      have d2 := blk_frozen HW2.out.blk k
      have hix0 : (0 : Int) ≤ (k : Int) := by omega
      have hix1 : (k : Int) < 19 := by omega
      go_wp2_with fail
      have HS : Aside0 (HdMid w (w2.setCell ⟨a, k, none⟩ (.int .i64 y)) B x g a s (p1 + 3) o m (l.set k y)) := by
       have hf : Fr w2 (w2.setCell ⟨a, k, none⟩ (.int .i64 y)) (· = a) := (Fr.refl _ _).set1 k _
       obtain ⟨v2, hb2, hr2⟩ := HW2.out.inf.blk
       have hA := HA.out
       have hX := HXG.out
       refine ⟨⟨⟨⟨v2, hf.blk hb2 (by omega), hr2.fr hf (fun j hj => hr2.ne_blk HW2.out.blk (by decide) j hj)⟩, HW2.out.inf.rd.fr hf (by omega)⟩, ?_, HW2.out.fr.trans hf (fun j hj h => absurd hj (by omega)), by rw [List.length_set]; exact HW2.out.len⟩⟩
       refine (blk_set HW2.out.blk k _).trans ?_
       simp [nums, List.map_set]
      clear d1 d2 HW2
      go_roundw
      case rel => exact ⟨i + 1, p1 + 3, l.set k y, by go_num, by omega, h3, HS.out, HREC.out⟩
      case measure => simp [intOf]; omega
     ·have K1 := rd_get_short wr g s p1 3 HW.out.1.inf.rd (by omega) (by omega) (by omega)
      rw [show ((3 : Nat) : Int) = 3 from rfl] at K1
      have K1 := Aside0.mk K1
      rw [show (((getM 3).bind fun n => headsL many (19 - (i + 1)) (i + 1) (l.set k n)).bind fun l => if chkF l ≠ 0 then RM.err 4 else RM.ret l) s m p1 o = .bad 5 by unfold RM.bind; rw [get_bad h3]] at hrec
      have HREC := Aside0.mk hrec
      clear hrec
      go_wp2_with fail
      refine K1.out.mono ?_
      rintro e w2 ⟨rfl, hd2⟩
      have HF2 := Aside0.mk (HW.out.1.fr.then_ (Fr.of_drawn hd2 _))
      clear hd2 HW K1 c1
      go_wp2_with fail
      repeat (rw [Exit.noGoto_ret])
      go_returns
      rw [HREC.out]
      exact ⟨rfl, HF2.out⟩
    ·have q2 : decide ((many : Int) ≤ (i : Int)) = true := decide_eq_true (by omega)
     have q2n : decide (many ≤ i) = true := decide_eq_true (by omega)
     rw [if_neg hmy, bind_ok (show RM.ret l s m p1 o = .ok l p1 o from rfl)] at hrec
     have HREC := Aside0.mk hrec
     clear hrec hk
     go_wp2_with fail
     go_meet
     exact ⟨p1, l, hp1, HW.out.1, HREC.out⟩
   ·have q1 : decide ((i : Int) < 19) = false := decide_eq_false (by omega)
    have q1n : decide (i < 19) = false := decide_eq_false hlt
    obtain rfl : i = 19 := by omega
    rw [Nat.sub_self, headsL, bind_ok (show RM.ret l s m p1 o = .ok l p1 o from rfl)] at hrec
    have HREC := Aside0.mk hrec
    clear hrec
    go_wp2_with fail
    go_meet
    exact ⟨p1, l, hp1, HW.out.1, HREC.out⟩
 case rest =>
  clear H1 HRS KI
  obtain ⟨p1, l, hp1, HW⟩ := hcut
  have hl := HW.out.1.len
  have HRD := Aside0.mk (fun (W : World) (h : Below wc.heap.size wc W) => reads_blk (blk_below HW.out.1.blk h) (by rw [hl]; decide))
  have K1 := check_calls (some ⟨a, 0, none⟩) 19 19 l wc hl.symm (HRD.out wc (Below.refl _ _)) (by decide)
  obtain ⟨ck, hck⟩ : ∃ ck, ck = chkF l := ⟨_, rfl⟩
  rw [← hck] at K1
  have K1 := Aside0.mk K1
  have HL := Aside0.mk hl
  clear hl
  by_cases h0 : ck = 0
  ·subst h0
   have hres := HW.out.2
   rw [if_neg (by rw [← hck]; decide)] at hres
   have HM := Aside0.mk (chk_may hck.symm)
   have HRES := Aside0.mk hres
   clear hres hck
   go_wp2_with fail
   refine K1.out.mono ?_
   rintro e w2 ⟨rfl, hb2⟩
   have HI2 := Aside0.mk (HW.out.1.inf.below hb2)
   have HF2 := Aside0.mk (HW.out.1.fr.then_ (Fr.of_below hb2 _))
   have K2 := new_ok (some ⟨a, 0, none⟩) 19 l w2 (HRD.out w2 hb2) (by rw [HL.out]; exact Nat.le_refl _) HM.out
   rw [HL.out] at K2
   have K2 := Aside0.mk K2
   have HWC := Aside0.mk (Nat.le_trans HW.out.1.fr.size hb2.size)
   clear hb2 HW K1 HRD
   go_wp2_with fail
   refine K2.out.mono ?_
   rintro e w3 ⟨tb, rfl, ht3, htb3, hb3⟩
   have HI3 := Aside0.mk (HI2.out.below hb3)
   have HF3 := Aside0.mk (HF2.out.then_ (Fr.of_below hb3 _))
   have HT3 : Aside0 (Tr w3 w.heap.size tb l) := ⟨TreeAt.lower ht3 HWC.out⟩
   clear ht3 htb3 hb3 K2 HI2 HF2
   go_wp2_with fail
   go_returns
   rw [HRES.out]
   exact ⟨⟨tb, rfl, HT3.out, HM.out, HL.out, HI3.out⟩, HF3.out⟩
  ·have hres := HW.out.2
   rw [if_pos (by rw [← hck]; exact h0)] at hres
   have q1 : (ck != 0) = true := by simpa using h0
   have HRES := Aside0.mk hres
   clear hres hck h0
   go_wp2_with fail
   refine K1.out.mono ?_
   rintro e w2 ⟨rfl, hb2⟩
   have HF2 := Aside0.mk (HW.out.1.fr.then_ (Fr.of_below hb2 _))
   clear hb2 HW K1 HRD
   go_wp2_with fail
   go_returns
   rw [HRES.out]
   exact ⟨rfl, HF2.out⟩
end Go.Proofs.YtghoifkaikddlaaGreat.Hand
namespace Go.Proofs.YtghoifkaikddlaaGreat.Hand
open Go.RowKit Go.Proofs.YtghoifkaikddlaaGreatW.PrintWords Go.Proofs.YtghoifkaikddlaaGreatW.PrintLast Go.Proofs.YtghoifkaikddlaaGreatW.PrintMore Go.Proofs.YtghoifkaikddlaaGreat.Num Go.Proofs.YtghoifkaikddlaaGreat.Bits
set_option linter.unusedVariables false
set_option linter.unusedSimpArgs false
structure FillAt (W : World) (mb cb many : Nat) (v : Value) (row : List Int) : Prop where
 mblk : W.heap[mb]? = some (.cells #[.int .i64 (many : Int)] 3 (0, 0))
 cblk : W.heap[cb]? = some (.cells #[v] 74 (0, 0))
 row : Row W (mb + 1) 3 .i64 v row
def SP (mb cb : Nat) (W : World) (k : Nat) : Prop := k = cb ∨ (mb < k ∧ ∃ cs fr, W.heap[k]? = some (.cells cs 3 fr))
theorem Fr.sp {w w1 w2 : World} {mb cb : Nat} (h : Fr w w1 (SP mb cb w)) (k : Fr w1 w2 (SP mb cb w1)) : Fr w w2 (SP mb cb w) :=
 h.trans k (fun j hj hs => by
  by_cases hn : SP mb cb w j
  ·exact hn
  ·rcases hs with h1 | ⟨h1, cs, fr, h2⟩
   ·exact .inl h1
   ·exact .inr ⟨h1, cs, fr, (h.block j hj hn).symm.trans h2⟩)
theorem FillAt.below {W W' : World} {mb cb many : Nat} {v : Value} {row : List Int} (h : FillAt W mb cb many v row) (hb : Below W.heap.size W W') : FillAt W' mb cb many v row := ⟨blk_below h.mblk hb, blk_below h.cblk hb, h.row.below hb⟩
theorem FillAt.drawn {W W' : World} {mb cb many : Nat} {v : Value} {row : List Int} (h : FillAt W mb cb many v row) (hd : Drawn0 W W') : FillAt W' mb cb many v row := by
 obtain ⟨n, rfl⟩ := hd.out; exact ⟨h.mblk, h.cblk, h.row⟩
theorem FillAt.frI {w w1 : World} {B x g mb cb many : Nat} {s : ByteArray} {p : Nat} {o : List Int} {m : Int} {v : Value} {row : List Int} (h : FillAt w mb cb many v row) (hI : InfAt w B x g s p o m) (hf : Fr w w1 (SI B x g w)) : FillAt w1 mb cb many v row := by
 obtain ⟨u, hx, _⟩ := hI.blk
 have key : ∀ (k : Nat) (cs : Array Value) (t : TypeId), w.heap[k]? = some (.cells cs t (0, 0)) → t ≠ 166 → t ≠ 188 → t ≠ 5 → ¬ SI B x g w k := fun k cs t hk h1 h2 h3 hs => by
  rcases hs with rfl | rfl | ⟨_, c2, fr, h⟩
  ·rw [hk] at hx; injection hx with hx; injection hx with _ hx; exact h1 hx
  ·have q := hI.rd.blk; rw [hk] at q; injection q with q; injection q with _ q; exact h2 q
  ·rw [hk] at h; injection h with h; injection h with _ h; exact h3 h
 exact ⟨hf.blk h.mblk (key _ _ _ h.mblk (by decide) (by decide) (by decide)), hf.blk h.cblk (key _ _ _ h.cblk (by decide) (by decide) (by decide)), h.row.fr hf (fun j hj => by
  obtain ⟨cs, hc⟩ := h.row.blk j hj
  exact key _ _ _ hc (by decide) (by decide) (by decide))⟩
theorem InfAt.frP {w w1 : World} {B x g mb cb : Nat} {s : ByteArray} {p : Nat} {o : List Int} {m : Int} (h : InfAt w B x g s p o m) (hc : ∃ v, w.heap[cb]? = some (.cells #[v] 74 (0, 0))) (hf : Fr w w1 (SP mb cb w)) : InfAt w1 B x g s p o m := by
 obtain ⟨v, hv⟩ := hc
 obtain ⟨u, hx, hr⟩ := h.blk
 have key : ∀ (k : Nat) (cs : Array Value) (t : TypeId), w.heap[k]? = some (.cells cs t (0, 0)) → t ≠ 74 → t ≠ 3 → ¬ SP mb cb w k := fun k cs t hk h1 h2 hs => by
  rcases hs with rfl | ⟨_, c2, fr, h⟩
  ·rw [hk] at hv; injection hv with hv; injection hv with _ hv; exact h1 hv
  ·rw [hk] at h; injection h with h; injection h with _ h; exact h2 h
 exact ⟨⟨u, hf.blk hx (key _ _ _ hx (by decide) (by decide)), hr.fr hf (fun j hj => by
  obtain ⟨cs, hc⟩ := hr.blk j hj
  exact key _ _ _ hc (by decide) (by decide))⟩, h.rd.fr hf (key _ _ _ h.rd.blk (by decide) (by decide))⟩
theorem filler_calls (w : World) (many : Nat) : Calls Tryz.prog 183 #[.int .i64 (many : Int)] w fun e w' => e = .returned (.tuple #[.pointer (some ⟨w.heap.size + 1, 0, none⟩), .func (.func 188) #[] #[.pointer (some ⟨w.heap.size, 0, none⟩), .pointer (some ⟨w.heap.size + 1, 0, none⟩)]]) ∧ FillAt w' w.heap.size (w.heap.size + 1) many (.slice none 0 0) [] ∧ Below w.heap.size w w' := by
 go_enter Tryz.func183, Tryz.ntmps183
 go_wp2_with fail
 go_returns
 have h2 := heap_alloc2_new w (.cells #[.int .i64 (many : Int)] 3) (.cells #[.slice none 0 0] 74)
 exact ⟨rfl, ⟨heap_alloc2_old _ _ _, h2, Row.nil _ _ _ _⟩, below_alloc (below_alloc (Below.refl _ _) _) _⟩
theorem FillAt.app {W W1 : World} {mb cb many : Nat} {v v' : Value} {row row' : List Int} {ob : Obj} (h : FillAt W mb cb many v row) (hm : mb < W.heap.size) (hap : App (W.alloc ob) W1 (mb + 1) 3 .i64 v v' row') :
  FillAt (W1.setCell ⟨cb, 0, none⟩ v') mb cb many v' row' ∧ Fr W (W1.setCell ⟨cb, 0, none⟩ v') (SP mb cb W) := by
 have hmc : mb ≠ cb := by
  rintro rfl
  have q := h.mblk; rw [h.cblk] at q; injection q with q; injection q with _ q; exact absurd q (by decide)
 have hr1 := h.row.alloc ob
 have hnm : ¬ v.ownBlock = some mb := fun hv => by have := (h.row.lt mb hv).1; omega
 have hb1 : W1.heap[mb]? = some (.cells #[.int .i64 (many : Int)] 3 (0, 0)) := (Fr.of_grown hap.grown).blk (blk_alloc h.mblk ob) hnm
 have hc1 := hap.blk1 h.row h.cblk (by decide)
 have hc2 := blk_set hc1 0 v'
 have hf1 : Fr W W1 (SP mb cb W) := by
  refine (Fr.of_below (below_alloc (Below.refl _ _) ob) (SP mb cb W)).trans (Fr.of_grown hap.grown) (fun k hk hv => ?_)
  refine .inr ⟨by have := (hr1.lt k hv).1; omega, ?_⟩
  obtain ⟨cs, hc⟩ := h.row.blk k hv
  exact ⟨cs, (0, 0), hc⟩
 have hf2 : Fr W1 (W1.setCell ⟨cb, 0, none⟩ v') (· = cb) := (Fr.refl _ _).set1 0 v'
 exact ⟨⟨hf2.blk hb1 hmc, by rw [hc2]; simp, hap.row.fr hf2 (fun k hk => hap.row.ne_blk hc1 (by decide) k hk)⟩, hf1.sp (hf2.mono (fun _ _ h => .inl h))⟩
theorem put_bad (w : World) (mb cb many times : Nat) (v : Value) (row : List Int) (n : Int) (h : FillAt w mb cb many v row) (hm : many ≤ 1000) (ht : times ≤ 1000) (hr : row.length ≤ many) (hroom : (many : Int) - row.length < times) :
  Calls Tryz.prog 188 #[.int .i64 n, .int .i64 (times : Int), .pointer (some ⟨mb, 0, none⟩), .pointer (some ⟨cb, 0, none⟩)] w fun e w' => e = .returned (.int .i64 4) ∧ w = w' := by
 have c1 : w.cell? ⟨mb, 0, none⟩ = some (.int .i64 (many : Int)) := blk_cell h.mblk 0
 have c2 : w.cell? ⟨cb, 0, none⟩ = some v := blk_cell h.cblk 0
 obtain ⟨A, k, hv, _⟩ := h.row.reads
 subst hv
 have H0 := Aside0.mk h
 have hmb := blk_lt h.mblk
 clear h
 have q1 : decide ((many : Int) - (row.length : Int) < (times : Int)) = true := decide_eq_true hroom
 clear hroom
 go_enter Tryz.func188, Tryz.ntmps188
 go_wp2_with fail
 go_returns
 exact ⟨rfl, rfl⟩
set_option maxRecDepth 100000 in
set_option maxHeartbeats 4000000 in
theorem put_ok (w : World) (mb cb many times : Nat) (v : Value) (row : List Int) (n : Int) (h : FillAt w mb cb many v row) (hm : many ≤ 1000) (ht : times ≤ 1000) (hr : row.length ≤ many) (hroom : ¬ (many : Int) - row.length < times) :
  Calls Tryz.prog 188 #[.int .i64 n, .int .i64 (times : Int), .pointer (some ⟨mb, 0, none⟩), .pointer (some ⟨cb, 0, none⟩)] w fun e w' => e = .returned (.int .i64 0) ∧ (∃ v', FillAt w' mb cb many v' (row ++ List.replicate times n)) ∧ Fr w w' (SP mb cb w) := by
 have c1 : w.cell? ⟨mb, 0, none⟩ = some (.int .i64 (many : Int)) := blk_cell h.mblk 0
 have c2 : w.cell? ⟨cb, 0, none⟩ = some v := blk_cell h.cblk 0
 obtain ⟨A, k, hv, _⟩ := h.row.reads
 subst hv
 have H0 := Aside0.mk h
 have hmb := blk_lt h.mblk
 clear h
 have q1 : decide ((many : Int) - (row.length : Int) < (times : Int)) = false := decide_eq_false hroom
 have HMB := Aside0.mk hmb
 have hrl : row.length ≤ 1000 := by omega
 clear hroom hmb
 go_enter Tryz.func188, Tryz.ntmps188
 go_wp2_with fail
 go_loopw [14] (fun v14 wr => ∃ (j : Nat) (v' : Value), v14 = .int .i64 j ∧ j ≤ times ∧ Aside0 (FillAt wr mb cb many v' (row ++ List.replicate j n) ∧ Fr w wr (SP mb cb w))) (fun v14 _ => times - (intOf v14).toNat)
 case atStart => exact ⟨0, _, rfl, by omega, by simpa using H0.out, Fr.refl _ _⟩
 case round =>
  clear H0
  obtain ⟨j, v', rfl, hj, HW⟩ := hrel
  by_cases hlt : j < times
  ·have r1 : decide ((j : Int) < (times : Int)) = true := decide_eq_true (by omega)
   have r1n : decide (j < times) = true := decide_eq_true hlt
   obtain ⟨A1, n1, k1, hv1, hn1⟩ := HW.out.1.row.shape
   subst hv1
   have d1 : wr.cell? ⟨cb, 0, none⟩ = some (.slice A1 n1 k1) := blk_cell HW.out.1.cblk 0
   have hmw := blk_lt HW.out.1.mblk
   have hlen : (row ++ List.replicate j n).length = row.length + j := by rw [List.length_append, List.length_replicate]
   have hl1 : (row ++ List.replicate j n).length + 1 ≤ maxLen := by rw [hlen]; unfold maxLen; omega
   have hl2 : ((row ++ List.replicate j n).length + 1) * 8 ≤ 140737488355328 := by rw [hlen]; omega
   have hBx : mb + 1 ≤ (wr.alloc (.cells #[.int .i64 n] 3)).heap.size := by simp; omega
   have HE : Aside0 (row ++ List.replicate j n ++ [n] = row ++ List.replicate (j + 1) n) := ⟨by rw [List.append_assoc, List.replicate_succ']⟩
   clear hn1 hlen
   go_wp2_with (at_builtin; refine app_wp (mb + 1) rfl _ _ 74 3 .i64 8 rfl Tryz.underlying74 infoI649 (.slice A1 n1 k1) (row ++ List.replicate j n) [n] rfl ⟨wr.heap.size, 0, none⟩ 1 1 rfl rfl (news_lit wr .i64 [n] _ _ (by rfl)) (HW.out.1.row.alloc _) hBx hl1 hl2 ?_; intro v8 w8 hap; obtain ⟨A8, n8, k8, hv8, hn8⟩ := hap.row.shape; subst hv8; have hb8 := hap.blk1 HW.out.1.row HW.out.1.cblk (by decide); have f8 := blk_frozen hb8 0; have d8 : w8.cell? ⟨cb, 0, none⟩ = some (.slice A1 n1 k1) := blk_cell hb8 0)
   have HK := Aside0.mk (HW.out.1.app hmw hap)
   go_roundw
   case rel => exact ⟨j + 1, _, by go_num, by omega, by rw [← HE.out]; exact HK.out.1, HW.out.2.sp HK.out.2⟩
   case measure => simp [intOf]; omega
  ·have r1 : decide ((j : Int) < (times : Int)) = false := decide_eq_false (by omega)
   have r1n : decide (j < times) = false := decide_eq_false hlt
   obtain rfl : j = times := by omega
   go_wp2_with fail
   go_returns
   exact ⟨rfl, ⟨v', HW.out.1⟩, HW.out.2⟩
end Go.Proofs.YtghoifkaikddlaaGreat.Hand
