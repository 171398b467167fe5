/- Inflate: room, told, the tables; walked by hand. Inflate: what an inflater is in memory; room, told; walked by hand. Inflate: repeat; walked by hand. Inflate: coded; walked by hand. -/
import Derived.Test.YtfoicjlkbkjfjaaInf
import Derived.Test.YtfoicjlkbkjfjaaHand09n
import Derived.Handy
import Derived.WalkMore
import Derived.Great.BuildSlice
import Derived.Test.YtfoicjlkbkjfjaaHand09u
namespace Go.Proofs.Ytfoicjlkbkjfjaa.Hand
open Go.RowKit Go.Proofs.YtfoicjlkbkjfjaaW.PrintWords Go.Proofs.YtfoicjlkbkjfjaaW.PrintLast Go.Proofs.YtfoicjlkbkjfjaaW.PrintMore Go.Proofs.Ytfoicjlkbkjfjaa.Num Go.Proofs.Ytfoicjlkbkjfjaa.Bits
set_option linter.unusedVariables false
set_option linter.unusedSimpArgs false
def spanV (l : List (Int × Nat)) : List Value := l.flatMap (fun x => [.int .i64 x.1, .int .i64 (x.2 : Int)])
theorem spanV_one (l : List (Int × Nat)) : ∀ v ∈ spanV l, v.oneCell' = true := fun u hu => by
  simp only [spanV, List.mem_flatMap] at hu
  obtain ⟨x, _, hx⟩ := hu
  simp at hx
  rcases hx with rfl | rfl <;> rfl
theorem spanV_length (l : List (Int × Nat)) : (spanV l).length = 2 * l.length := by
  induction l with
  | nil => rfl
  | cons a l ih => rw [spanV, List.flatMap_cons, List.length_append]; unfold spanV at ih; rw [ih]; simp; omega
theorem spanV_get : ∀ (l : List (Int × Nat)) (i : Nat), i < l.length → (spanV l)[i * 2]? = some (.int .i64 (l.getD i (0, 0)).1) ∧ (spanV l)[i * 2 + 1]? = some (.int .i64 ((l.getD i (0, 0)).2 : Int))
  | [], i, h => absurd h (Nat.not_lt_zero _)
  | a :: l, 0, _ => ⟨rfl, rfl⟩
  | a :: l, i + 1, h => by
    have hh := spanV_get l i (by simpa using h)
    have e : ∀ j, (spanV (a :: l))[j + 2]? = (spanV l)[j]? := fun j => rfl
    rw [show (i + 1) * 2 = i * 2 + 2 by omega, show i * 2 + 2 + 1 = (i * 2 + 1) + 2 by omega, e, e, List.getD_cons_succ]
    exact hh
theorem run_index_span {P : Program} (W : World) (t e : TypeId) (n : Nat) (ie : TypeInfo) (ht : P.underlying t = some (.array n e)) (hagg : (isAgg e).run P W = .ok true W) (hie : P.info? e = some ie) (hsz : ie.size = 2)
    (T : List (Int × Nat)) (hn : T.length = n) (i : Nat) (hi : i < n) :
    (Instr.index t (.agg (spanV T).toArray) (.int .i64 (i : Int))).run P W = .ok (.agg #[.int .i64 (T.getD i (0, 0)).1, .int .i64 ((T.getD i (0, 0)).2 : Int)]) W := by
  have h0 : (0 ≤ (i : Int) ∧ (i : Int) < (n : Int)) := by omega
  have hx : List.take 2 (List.drop (i * 2) (spanV T)) = [.int .i64 (T.getD i (0, 0)).1, .int .i64 ((T.getD i (0, 0)).2 : Int)] := by
    obtain ⟨g0, g1⟩ := spanV_get T i (by omega)
    apply List.ext_getElem?
    intro j
    simp only [List.getElem?_take, List.getElem?_drop]
    match j with
    | 0 => simpa using g0
    | 1 => simpa using g1
    | j + 2 => rw [if_neg (by omega)]; rfl
  simp [Instr.index, asIntOf, run_underlying ht, h0, sizeOf, typeInfo, hie, hsz, part, Sem.run_bind, hagg, hx, hi]
theorem aggSpan (W : World) : (isAgg 142).run Try.prog W = .ok true W := by
  unfold isAgg; rw [Sem.run_bind, run_underlying Try.underlying142 W]; rfl
theorem infoSpan : (Try.prog.info? 142).map (·.size) = some 2 := by kernel_rfl
theorem index_lens (W : World) (i : Nat) (hi : i < 29) : (Instr.index 145 (.agg (spanV lensT).toArray) (.int .i64 (i : Int))).run Try.prog W = .ok (.agg #[.int .i64 (lensT.getD i (0, 0)).1, .int .i64 ((lensT.getD i (0, 0)).2 : Int)]) W := by
  obtain ⟨ie, hie, hsz⟩ := Option.map_eq_some_iff.1 infoSpan
  exact run_index_span W _ 142 29 ie Try.underlying145 (aggSpan W) hie hsz lensT rfl i hi
theorem index_dist (W : World) (i : Nat) (hi : i < 30) : (Instr.index 147 (.agg (spanV distT).toArray) (.int .i64 (i : Int))).run Try.prog W = .ok (.agg #[.int .i64 (distT.getD i (0, 0)).1, .int .i64 ((distT.getD i (0, 0)).2 : Int)]) W := by
  obtain ⟨ie, hie, hsz⟩ := Option.map_eq_some_iff.1 infoSpan
  exact run_index_span W _ 142 30 ie Try.underlying147 (aggSpan W) hie hsz distT rfl i hi
theorem infoLens : (Try.prog.info? 145).map (·.size) = some 58 := by kernel_rfl
theorem infoDist : (Try.prog.info? 147).map (·.size) = some 60 := by kernel_rfl
set_option maxRecDepth 100000 in
set_option maxHeartbeats 4000000 in
theorem lengths_calls (w : World) : Calls Try.prog 98 #[] w fun e w' => e = .returned (.agg (spanV lensT).toArray) ∧ Below w.heap.size w w' := by
  go_enter Try.func98, Try.ntmps98
  obtain ⟨sv, hsv⟩ : ∃ sv : List Value, sv = spanV lensT := ⟨_, rfl⟩
  have hl : sv.length = 58 := by rw [hsv]; rfl
  have h1 : ∀ v ∈ sv, v.oneCell' = true := by rw [hsv]; exact spanV_one _
  rw [← hsv]
  have HS := Aside0.mk hsv
  have HL := Aside0.mk hl
  clear hsv hl
  go_wp2_with (first | (refine wpList_buildTo rfl 145 _ rfl _ rfl sv.toArray (by rw [HS.out]; kernel_rfl) ?_) | (refine wpList_store_mid rfl 145 _ _ rfl w.heap.size 0 sv.toArray rfl rfl (arr_there (cs := List.replicate 58 (.int .i64 0)) (t := 145) (heap_alloc_new w _) _ (by rw [List.size_toArray, HL.out]; rfl)) (by rw [infoLens]; simpa using HL.out.symm) (all_oneCell_toArray h1) ?_))
  exact bodyPost_ret (results_cell_row Try.results98 _ _ w.heap.size 145 sv.toArray (0, 0) _ rfl (setCells_blk (cs := List.replicate 58 (.int .i64 0)) (heap_alloc_new w _) (by rw [HL.out]; rfl)) Try.underlying145 rfl (by rw [infoLens]; simpa using HL.out.symm)) rfl ⟨rfl, ((Below.refl _ _).alloc (Nat.le_refl _) _).trans ((setCells_fr w.heap.size sv 0 _).below (by rintro k rfl; exact Nat.le_refl _) (by simp))⟩
set_option maxRecDepth 100000 in
set_option maxHeartbeats 4000000 in
theorem distances_calls (w : World) : Calls Try.prog 99 #[] w fun e w' => e = .returned (.agg (spanV distT).toArray) ∧ Below w.heap.size w w' := by
  go_enter Try.func99, Try.ntmps99
  obtain ⟨sv, hsv⟩ : ∃ sv : List Value, sv = spanV distT := ⟨_, rfl⟩
  have hl : sv.length = 60 := by rw [hsv]; rfl
  have h1 : ∀ v ∈ sv, v.oneCell' = true := by rw [hsv]; exact spanV_one _
  rw [← hsv]
  have HS := Aside0.mk hsv
  have HL := Aside0.mk hl
  clear hsv hl
  go_wp2_with (first | (refine wpList_buildTo rfl 147 _ rfl _ rfl sv.toArray (by rw [HS.out]; kernel_rfl) ?_) | (refine wpList_store_mid rfl 147 _ _ rfl w.heap.size 0 sv.toArray rfl rfl (arr_there (cs := List.replicate 60 (.int .i64 0)) (t := 147) (heap_alloc_new w _) _ (by rw [List.size_toArray, HL.out]; rfl)) (by rw [infoDist]; simpa using HL.out.symm) (all_oneCell_toArray h1) ?_))
  exact bodyPost_ret (results_cell_row Try.results99 _ _ w.heap.size 147 sv.toArray (0, 0) _ rfl (setCells_blk (cs := List.replicate 60 (.int .i64 0)) (heap_alloc_new w _) (by rw [HL.out]; rfl)) Try.underlying147 rfl (by rw [infoDist]; simpa using HL.out.symm)) rfl ⟨rfl, ((Below.refl _ _).alloc (Nat.le_refl _) _).trans ((setCells_fr w.heap.size sv 0 _).below (by rintro k rfl; exact Nat.le_refl _) (by simp))⟩
end Go.Proofs.Ytfoicjlkbkjfjaa.Hand
namespace Go.Proofs.Ytfoicjlkbkjfjaa.Hand
open Go.RowKit Go.Proofs.YtfoicjlkbkjfjaaW.PrintWords Go.Proofs.YtfoicjlkbkjfjaaW.PrintLast Go.Proofs.YtfoicjlkbkjfjaaW.PrintMore Go.Proofs.Ytfoicjlkbkjfjaa.Num Go.Proofs.Ytfoicjlkbkjfjaa.Bits
set_option linter.unusedVariables false
set_option linter.unusedSimpArgs false
/-- An inflater in memory. -/
structure InfAt (w : World) (B x g : Nat) (s : ByteArray) (p : Nat) (o : List Int) (m : Int) : Prop where
  blk : ∃ v, w.heap[x]? = some (.cells #[.pointer (some ⟨g, 0, none⟩), v, .int .i64 m] 70 (0, 0)) ∧ Row w B 5 .u8 v o
  rd : RdAt w g s p
/-- What an inflater's doings may write. -/
def SI (B x g : Nat) (w : World) (k : Nat) : Prop := k = x ∨ k = g ∨ (B ≤ k ∧ U8 w k)
theorem U8.old {w w1 : World} {S : Nat → Prop} (h : Fr w w1 S) {k : Nat} (hk : k < w.heap.size) (hu : U8 w1 k) (hn : ¬ S k) : U8 w k := by
  obtain ⟨cs, fr, hc⟩ := hu
  exact ⟨cs, fr, (h.block k hk hn).symm.trans hc⟩
theorem Fr.si {w w1 w2 : World} {B x g : Nat} (h : Fr w w1 (SI B x g w)) (k : Fr w1 w2 (SI B x g w1)) : Fr w w2 (SI B x g w) :=
  h.trans k (fun j hj hs => by
    by_cases hn : SI B x g w j
    · exact hn
    · rcases hs with h1 | h1 | ⟨h1, h2⟩
      · exact .inl h1
      · exact .inr (.inl h1)
      · exact .inr (.inr ⟨h1, U8.old h hj h2 hn⟩))
theorem Fr.siR {w w1 : World} {B x g : Nat} (h : Fr w w1 (· = g)) : Fr w w1 (SI B x g w) := h.mono (fun _ _ h => .inr (.inl h))
theorem Fr.siX {w w1 : World} {B x g : Nat} (h : Fr w w1 (· = x)) : Fr w w1 (SI B x g w) := h.mono (fun _ _ h => .inl h)
theorem Fr.siBelow {w w1 : World} {B x g : Nat} (h : Fr w w1 (SI B x g w)) {C : Nat} (hx : C ≤ x) (hg : C ≤ g) (hB : C ≤ B) (hC : C ≤ w.heap.size) : Below C w w1 := h.below (by rintro k (rfl | rfl | h); exact hx; exact hg; omega) hC
theorem InfAt.ne {w : World} {B x g : Nat} {s : ByteArray} {p : Nat} {o : List Int} {m : Int} (h : InfAt w B x g s p o m) : x ≠ g := by
  obtain ⟨v, hb, _⟩ := h.blk
  rintro rfl
  have q := h.rd.blk
  rw [hb] at q; injection q with q; injection q with _ q; exact absurd q (by decide)
theorem InfAt.below {w w1 : World} {B x g : Nat} {s : ByteArray} {p : Nat} {o : List Int} {m : Int} (h : InfAt w B x g s p o m) (hb : Below w.heap.size w w1) : InfAt w1 B x g s p o m := by
  obtain ⟨v, h1, h2⟩ := h.blk
  exact ⟨⟨v, blk_below h1 hb, h2.below hb⟩, ⟨blk_below h.rd.blk hb, h.rd.le⟩⟩
theorem InfAt.drawn {w w1 : World} {B x g : Nat} {s : ByteArray} {p : Nat} {o : List Int} {m : Int} (h : InfAt w B x g s p o m) (hd : Drawn0 w w1) : InfAt w1 B x g s p o m := by
  obtain ⟨n, rfl⟩ := hd.out; exact ⟨h.blk, h.rd.drawn ⟨n, rfl⟩⟩
/-- What it reads. -/
theorem InfAt.read {w w1 : World} {B x g : Nat} {s : ByteArray} {p q : Nat} {o : List Int} {m : Int} (h : InfAt w B x g s p o m) (k : RdAt w1 g s q) (hf : Fr w w1 (· = g)) : InfAt w1 B x g s q o m := by
  obtain ⟨v, h1, h2⟩ := h.blk
  refine ⟨⟨v, hf.blk h1 h.ne, h2.fr hf (fun j hj => h2.ne_blk h.rd.blk (by decide) j hj)⟩, k⟩
theorem room_calls (w : World) (B x g : Nat) (s : ByteArray) (p : Nat) (o : List Int) (m n : Int) (h : InfAt w B x g s p o m) (hm0 : 0 ≤ m) (hm : m ≤ 100000000) (ho : o.length ≤ 100000000) (hn0 : 0 ≤ n) (hn : n ≤ 100000000) :
    Calls Try.prog 79 #[.pointer (some ⟨x, 0, none⟩), .int .i64 n] w fun e w' => e = .returned (.int .i64 (if m - (o.length : Int) < n then 7 else 0)) ∧ Drawn0 w w' := by
  obtain ⟨v, hb, hr⟩ := h.blk
  obtain ⟨A, c, rfl, _⟩ := hr.reads
  have c1 : w.cell? ⟨x, 1, none⟩ = some (.slice A o.length c) := blk_cell hb 1
  have c2 : w.cell? ⟨x, 2, none⟩ = some (.int .i64 m) := blk_cell hb 2
  clear hb hr h
  by_cases h1 : m - (o.length : Int) < n
  · have q1 : decide (m - (o.length : Int) < n) = true := decide_eq_true h1
    rw [if_pos h1]
    clear h1
    go_enter Try.func79, Try.ntmps79
    go_wp2_with fail
    go_big_region
    go_wp2_with fail
    go_returns
    exact ⟨rfl, ⟨1, rfl⟩⟩
  · have q1 : decide (m - (o.length : Int) < n) = false := decide_eq_false h1
    rw [if_neg h1]
    clear h1
    go_enter Try.func79, Try.ntmps79
    go_wp2_with fail
    go_big_region
    go_wp2_with fail
    go_returns
    exact ⟨rfl, ⟨1, rfl⟩⟩
/-- What a step leaves, as a call. -/
def Left {α : Type} (r : Res α) (good : α → Value) (bad : Int → Value) (w' : World) (B x g : Nat) (s : ByteArray) (m : Int) (e : Ending) : Prop := match r with
  | .bad c => e = .returned (bad c)
  | .ok a p o => e = .returned (good a) ∧ InfAt w' B x g s p o m
theorem told_calls (w : World) (B x g : Nat) (s : ByteArray) (p : Nat) (o : List Int) (m a : Int) (b : Nat) (h : InfAt w B x g s p o m) (hs : s.size ≤ 1000000) (ha0 : 0 ≤ a) (ha : a ≤ 100000) (hb : b ≤ 13) (hB : B ≤ w.heap.size) :
    Calls Try.prog 94 #[.pointer (some ⟨x, 0, none⟩), .agg #[.int .i64 a, .int .i64 (b : Int)]] w fun e w' =>
      Left (toldM (a, b) s m p o) (fun n => .tuple #[.int .i64 n, .int .i64 0]) (fun c => .tuple #[.int .i64 a, .int .i64 c]) w' B x g s m e ∧ Fr w w' (SI B x g w) := by
  obtain ⟨v, hbk, hr⟩ := h.blk
  have c0 : w.cell? ⟨x, 0, none⟩ = some (.pointer (some ⟨g, 0, none⟩)) := blk_cell hbk 0
  have hxl := blk_lt hbk
  have hgl := blk_lt h.rd.blk
  have hne := h.ne
  have HI := Aside0.mk h
  clear hbk hr
  by_cases h1 : p + b ≤ 8 * s.size
  · have e1 : toldM (a, b) s m p o = .ok (a + val s p b) (p + b) o := by
      unfold toldM RM.bind getM RM.ret; dsimp only; rw [if_pos h1]
    rw [e1]
    have KG := Aside0.mk (fun (W : World) (h : RdAt W g s p) => rd_get W g s p b h (by omega) (by omega) h1)
    have hv := val_range s p b
    have hp := pow_le2 (show b ≤ 13 by omega)
    obtain ⟨y, hy⟩ : ∃ y, y = val s p b := ⟨_, rfl⟩
    rw [← hy] at hv KG ⊢
    have hy0 := hv.1
    have hy1 : y ≤ 10000 := by omega
    clear hy e1 hv hp
    go_enter Try.func94, Try.ntmps94
    go_wp2_with fail
    have hb1 := below_alloc (Below.refl w.heap.size w) (.cells #[.int .i64 a, .int .i64 (b : Int)] 142)
    have hnb := heap_alloc_new w (.cells #[.int .i64 a, .int .i64 (b : Int)] 142)
    have HI1 := Aside0.mk (HI.out.below hb1)
    have d0 : (w.alloc (.cells #[.int .i64 a, .int .i64 (b : Int)] 142)).cell? ⟨x, 0, none⟩ = some (.pointer (some ⟨g, 0, none⟩)) := (hb1.cell hxl).trans c0
    have HB1 := Aside0.mk hb1
    obtain ⟨tb, htb⟩ : ∃ tb, tb = w.heap.size := ⟨_, rfl⟩
    have hgt : tb ≠ g := by omega
    rw [← htb] at hnb ⊢
    have d1 : (w.alloc (.cells #[.int .i64 a, .int .i64 (b : Int)] 142)).cell? ⟨tb, 1, none⟩ = some (.int .i64 (b : Int)) := blk_cell hnb 1
    have d2 : (w.alloc (.cells #[.int .i64 a, .int .i64 (b : Int)] 142)).cell? ⟨tb, 0, none⟩ = some (.int .i64 a) := blk_cell hnb 0
    generalize (w.alloc (.cells #[.int .i64 a, .int .i64 (b : Int)] 142)) = W1 at HI1 d0 d1 d2 HB1 ⊢
    clear hnb hb1 c0 HI htb
    go_region_held3 (fun w' => w'.cell? ⟨x, 0, none⟩ = some (.pointer (some ⟨g, 0, none⟩)) ∧ w'.cell? ⟨tb, 1, none⟩ = some (.int .i64 (b : Int))) (first | exact ⟨d0, d1⟩ | exact ⟨e0, e1⟩) ((go_at_call 62; refine (KG.out _ (HI1.out.rd.drawn ⟨1, rfl⟩)).mono ?_; rintro e w2 ⟨rfl, h2, f2'⟩; have f2 : Fr W1 w2 (· = g) := f2'.of_drew; have e0 := (f2.cell d0 hne); have e1 := f2.cell d1 hgt; have e2 := f2.cell d2 hgt))
    have HI2 := Aside0.mk (HI1.out.read h2 f2)
    have HF2 : Aside0 (Fr w w2 (SI B x g w)) := ⟨(Fr.of_below HB1.out _).si f2.siR⟩
    clear h2 f2 f2' HI1 KG d0 d1 d2 e0 e1
    go_wp2_with fail
    go_returns
    exact ⟨⟨rfl, HI2.out⟩, HF2.out⟩
  · have e1 : toldM (a, b) s m p o = .bad 5 := by
      unfold toldM RM.bind getM RM.ret; dsimp only; rw [if_neg h1]
    rw [e1]
    have KG := Aside0.mk (fun (W : World) (h : RdAt W g s p) => rd_get_short W g s p b h (by omega) (by omega) (by omega))
    clear e1
    go_enter Try.func94, Try.ntmps94
    go_wp2_with fail
    have hb1 := below_alloc (Below.refl w.heap.size w) (.cells #[.int .i64 a, .int .i64 (b : Int)] 142)
    have hnb := heap_alloc_new w (.cells #[.int .i64 a, .int .i64 (b : Int)] 142)
    have HI1 := Aside0.mk (HI.out.below hb1)
    have d0 : (w.alloc (.cells #[.int .i64 a, .int .i64 (b : Int)] 142)).cell? ⟨x, 0, none⟩ = some (.pointer (some ⟨g, 0, none⟩)) := (hb1.cell hxl).trans c0
    have HB1 := Aside0.mk hb1
    obtain ⟨tb, htb⟩ : ∃ tb, tb = w.heap.size := ⟨_, rfl⟩
    have hgt : tb ≠ g := by omega
    rw [← htb] at hnb ⊢
    have d1 : (w.alloc (.cells #[.int .i64 a, .int .i64 (b : Int)] 142)).cell? ⟨tb, 1, none⟩ = some (.int .i64 (b : Int)) := blk_cell hnb 1
    have d2 : (w.alloc (.cells #[.int .i64 a, .int .i64 (b : Int)] 142)).cell? ⟨tb, 0, none⟩ = some (.int .i64 a) := blk_cell hnb 0
    generalize (w.alloc (.cells #[.int .i64 a, .int .i64 (b : Int)] 142)) = W1 at HI1 d0 d1 d2 HB1 ⊢
    clear hnb hb1 c0 HI htb
    go_region_held3 (fun w' => w'.cell? ⟨x, 0, none⟩ = some (.pointer (some ⟨g, 0, none⟩)) ∧ w'.cell? ⟨tb, 1, none⟩ = some (.int .i64 (b : Int))) (first | exact ⟨d0, d1⟩ | exact ⟨e0, e1⟩) ((go_at_call 62; refine (KG.out _ (HI1.out.rd.drawn ⟨1, rfl⟩)).mono ?_; rintro e w2 ⟨rfl, d2'⟩; have f2 : Fr W1 w2 (· = g) := (Fr.of_drawn d2' (· = g)).of_drew; have e0 := (f2.cell d0 hne); have e1 := f2.cell d1 hgt; have e2 := f2.cell d2 hgt))
    have HF2 : Aside0 (Fr w w2 (SI B x g w)) := ⟨(Fr.of_below HB1.out _).si f2.siR⟩
    clear d2' f2 HI1 KG d0 d1 d2 e0 e1
    go_wp2_with fail
    go_returns
    exact ⟨rfl, HF2.out⟩
end Go.Proofs.Ytfoicjlkbkjfjaa.Hand
namespace Go.Proofs.Ytfoicjlkbkjfjaa.Hand
open Go.RowKit Go.Proofs.YtfoicjlkbkjfjaaW.PrintWords Go.Proofs.YtfoicjlkbkjfjaaW.PrintLast Go.Proofs.YtfoicjlkbkjfjaaW.PrintMore Go.Proofs.Ytfoicjlkbkjfjaa.Num Go.Proofs.Ytfoicjlkbkjfjaa.Bits
set_option linter.unusedVariables false
set_option linter.unusedSimpArgs false
/-- A tree outlasts an inflater's doings. -/
theorem TreeAt.frI {w w1 : World} {B B' tb x g : Nat} {ls cs many syms : List Int} {lg : Int} {s : ByteArray} {p : Nat} {o : List Int} {m : Int} (hT : TreeAt w B' tb ls cs many syms lg) (hI : InfAt w B x g s p o m) (hf : Fr w w1 (SI B x g w)) : TreeAt w1 B' tb ls cs many syms lg := by
  obtain ⟨⟨vl, vc, vs, hb, h1, h2, h3⟩, hm⟩ := hT
  obtain ⟨v, hx, _⟩ := hI.blk
  have hne : ¬ SI B x g w tb := by
    rintro (rfl | rfl | ⟨_, c2, fr, h⟩)
    · rw [hb] at hx; injection hx with hx; injection hx with _ hx; exact absurd hx (by decide)
    · have q := hI.rd.blk; rw [hb] at q; injection q with q; injection q with _ q; exact absurd q (by decide)
    · rw [hb] at h; injection h with h; injection h with _ h; exact absurd h (by decide)
  have hrow : ∀ {u : Value} {xs : List Int}, Row w B' 3 .i64 u xs → ∀ j, u.ownBlock = some j → ¬ SI B x g w j := fun hr j hj hs => by
    rcases hs with rfl | rfl | ⟨_, c2, fr, h⟩
    · exact hr.ne_blk hx (by decide) j hj rfl
    · exact hr.ne_blk hI.rd.blk (by decide) j hj rfl
    · exact hr.ne_blk h (by decide) j hj rfl
  exact ⟨⟨vl, vc, vs, hf.blk hb hne, h1.fr hf (hrow h1), h2.fr hf (hrow h2), h3.fr hf (hrow h3)⟩, hm⟩
theorem bind_bad {α β : Type} {f : RM α} {g : α → RM β} {s : ByteArray} {m : Int} {p : Nat} {o : List Int} {c : Int} (h : f s m p o = .bad c) : (f.bind g) s m p o = .bad c := by
  unfold RM.bind; rw [h]
theorem bind_ok {α β : Type} {f : RM α} {g : α → RM β} {s : ByteArray} {m : Int} {p q : Nat} {o o' : List Int} {a : α} (h : f s m p o = .ok a q o') : (f.bind g) s m p o = g a s m q o' := by
  unfold RM.bind; rw [h]
theorem told_eq (a : Int) (b : Nat) (s : ByteArray) (m : Int) (p : Nat) (o : List Int) : toldM (a, b) s m p o = if p + b ≤ 8 * s.size then .ok (a + val s p b) (p + b) o else .bad 5 := by
  unfold toldM RM.bind getM RM.ret
  by_cases h : p + b ≤ 8 * s.size
  · rw [if_pos h, if_pos h]
  · rw [if_neg h, if_neg h]
theorem told_ok {a : Int} {b : Nat} {s : ByteArray} {m : Int} {p : Nat} {o : List Int} (h : p + b ≤ 8 * s.size) : toldM (a, b) s m p o = .ok (a + val s p b) (p + b) o := by rw [told_eq, if_pos h]
theorem told_bad {a : Int} {b : Nat} {s : ByteArray} {m : Int} {p : Nat} {o : List Int} (h : ¬ p + b ≤ 8 * s.size) : toldM (a, b) s m p o = .bad 5 := by rw [told_eq, if_neg h]
theorem sym_ok {l : List Int} {s : ByteArray} {m : Int} {p : Nat} {o : List Int} (h : (rdS s l p).2.1 = 0) : symM l s m p o = .ok (rdS s l p).1 (rdS s l p).2.2 o := by unfold symM; rw [if_pos h]
theorem sym_bad {l : List Int} {s : ByteArray} {m : Int} {p : Nat} {o : List Int} (h : ¬ (rdS s l p).2.1 = 0) : symM l s m p o = .bad (rdS s l p).2.1 := by unfold symM; rw [if_neg h]
theorem symP_nonneg (l : List Int) (n i : Nat) : ∀ x ∈ symP l n i, 0 ≤ x := by
  intro x hx
  simp only [symP, List.mem_map] at hx
  obtain ⟨j, _, rfl⟩ := hx
  omega
theorem symA_nonneg (l : List Int) : ∀ n, ∀ x ∈ symA l n, 0 ≤ x
  | 0, x, hx => by simp [symA] at hx
  | 1, x, hx => by simp [symA] at hx
  | n + 2, x, hx => by
    rw [symA] at hx
    rcases List.mem_append.1 hx with hx | hx
    · exact symA_nonneg l (n + 1) x hx
    · exact symP_nonneg l _ _ x hx
theorem rdT_nonneg (s : ByteArray) (many syms : List Int) (lg : Nat) (hs : ∀ x ∈ syms, 0 ≤ x) : ∀ (d n : Nat) (code first at_ : Int) (p : Nat), 0 ≤ (rdT s many syms lg d n code first at_ p).1
  | 0, _, _, _, _, _ => by rw [rdT]; exact Int.le_refl _
  | d + 1, n, code, first, at_, p => by
    rw [rdT]
    split
    · split
      · split
        · exact rdT_nonneg s many syms lg hs d _ _ _ _ _
        · dsimp only
          rw [List.getD_eq_getElem?_getD]
          cases hc : syms[(at_ + (2 * code + val s p 1) - first * 2).toNat]? with
          | none => simp
          | some z => exact hs z (List.mem_of_getElem? hc)
      · exact Int.le_refl _
    · exact Int.le_refl _
theorem rdS_nonneg (s : ByteArray) (l : List Int) (p : Nat) : 0 ≤ (rdS s l p).1 := rdT_nonneg s _ _ _ (symA_nonneg l 16) _ _ _ _ _ _
theorem lens_le : ∀ i, i < 29 → 0 ≤ (lensT.getD i (0, 0)).1 ∧ (lensT.getD i (0, 0)).1 ≤ 258 ∧ (lensT.getD i (0, 0)).2 ≤ 5 := by decide
theorem dist_le : ∀ i, i < 30 → 1 ≤ (distT.getD i (0, 0)).1 ∧ (distT.getD i (0, 0)).1 ≤ 24577 ∧ (distT.getD i (0, 0)).2 ≤ 13 := by decide
theorem copyL_snoc (back n : Nat) (o : List Int) : o ++ copyL back (n + 1) o = (o ++ [o.getD (o.length - back) 0]) ++ copyL back n (o ++ [o.getD (o.length - back) 0]) := by
  rw [copyL, List.append_assoc]; rfl
theorem App.undrew {W w1 : World} {B : Nat} {e : TypeId} {k : IntKind} {v v1 : Value} {xs : List Int} (h : App W.drew w1 B e k v v1 xs) : App W w1 B e k v v1 xs := ⟨h.row, ⟨h.grown.os, h.grown.tape, h.grown.output, h.grown.size, h.grown.block⟩⟩
/-- What an append to what came out leaves. -/
theorem InfAt.app {w w1 : World} {B x g : Nat} {s : ByteArray} {p : Nat} {o o' : List Int} {m : Int} {v v' : Value} {ob : Obj} (h : InfAt w B x g s p o m) (hb : w.heap[x]? = some (.cells #[.pointer (some ⟨g, 0, none⟩), v, .int .i64 m] 70 (0, 0))) (hr : Row w B 5 .u8 v o) (hB : B ≤ w.heap.size)
    (hap : App (w.alloc ob) w1 B 5 .u8 v v' o') : InfAt (w1.setCell ⟨x, 1, none⟩ v') B x g s p o' m ∧ Fr w (w1.setCell ⟨x, 1, none⟩ v') (SI B x g w) := by
  have hb1 := hap.blk1 hr hb (by decide)
  have hb2 := blk_set hb1 1 v'
  have hf1 : Fr w w1 (SI B x g w) := by
    refine (Fr.of_below (below_alloc (Below.refl _ _) ob) (SI B x g w)).trans (Fr.of_grown hap.grown) (fun k hk hv => ?_)
    have hr1 := hr.alloc ob
    refine .inr (.inr ⟨(hr1.lt k hv).1, ?_⟩)
    obtain ⟨cs, hc⟩ := hr.blk k hv
    exact ⟨cs, (0, 0), hc⟩
  have hf2 : Fr w1 (w1.setCell ⟨x, 1, none⟩ v') (· = x) := (Fr.refl _ _).set1 1 v'
  have hrd1 : RdAt w1 g s p := ⟨hap.blk1 hr h.rd.blk (by decide), h.rd.le⟩
  refine ⟨⟨⟨v', by rw [hb2]; simp, hap.row.fr hf2 (fun k hk => hap.row.ne_blk hb1 (by decide) k hk)⟩, hrd1.fr hf2 (fun e => h.ne e.symm)⟩, hf1.si hf2.siX⟩
set_option maxRecDepth 100000 in
set_option maxHeartbeats 4000000 in
theorem repeat_calls (w : World) (B B' x g tb sym : Nat) (l : List Int) (s : ByteArray) (p : Nat) (o : List Int) (m : Int) (h : InfAt w B x g s p o m) (hT : Tr w B' tb l) (hml : mayF l = 0) (hsym : sym < 29) (hs : s.size ≤ 1000000) (hB : B ≤ w.heap.size) (hm0 : 0 ≤ m) (hm : m ≤ 10000000) (ho : (o.length : Int) ≤ m) :
    Calls Try.prog 91 #[.pointer (some ⟨x, 0, none⟩), .int .i64 (sym : Int), .pointer (some ⟨tb, 0, none⟩)] w fun e w' =>
      Left (repeatM sym l s m p o) (fun _ => .int .i64 0) (fun c => .int .i64 c) w' B x g s m e ∧ Fr w w' (SI B x g w) := by
  obtain ⟨hl1, hl2, hl3⟩ := lens_le sym hsym
  have HX := Aside0.mk (fun (W : World) => index_lens W sym hsym)
  obtain ⟨res, hres⟩ : ∃ res, res = repeatM sym l s m p o := ⟨_, rfl⟩
  rw [← hres]
  unfold repeatM at hres
  obtain ⟨la, lb, hla⟩ : ∃ la lb, lensT.getD sym (0, 0) = (la, lb) := ⟨_, _, rfl⟩
  rw [hla] at hl1 hl2 hl3 HX hres
  dsimp only at hl1 hl2 hl3 HX
  have KT := Aside0.mk (fun (W : World) (h : InfAt W B x g s p o m) (hB : B ≤ W.heap.size) => told_calls W B x g s p o m la lb h hs hl1 (by omega) (by omega) hB)
  obtain ⟨sv, hsv⟩ : ∃ sv : List Value, sv = spanV lensT := ⟨_, rfl⟩
  have KL := Aside0.mk lengths_calls
  rw [← hsv] at KL HX
  have HI := Aside0.mk h
  have HT := Aside0.mk hT
  have hx := HX.out
  clear hsv hla h hT
  by_cases h1 : p + lb ≤ 8 * s.size
  · rw [bind_ok (told_ok h1)] at hres
    rw [told_ok h1] at KT
    have hv := val_range s p lb
    have hp := pow_le2 (show lb ≤ 5 by omega)
    obtain ⟨N, hN⟩ := Int.eq_ofNat_of_zero_le (show 0 ≤ la + val s p lb by omega)
    rw [hN] at hres KT
    have hN2 : N ≤ 289 := by omega
    obtain ⟨p1, hp1⟩ : ∃ p1, p1 = p + lb := ⟨_, rfl⟩
    rw [← hp1] at hres KT
    have hp1s : p1 ≤ 8 * s.size := by omega
    have KR := Aside0.mk (fun (W : World) (h : Tr W B' tb l) (hR : RdAt W g s p1) => tread_calls W B' tb g l s p1 hml h hR hs)
    have hd0 := rdS_nonneg s l p1
    have hq := rdS_le s l p1 hp1s
    have hsy1 := fun h => sym_ok (l := l) (s := s) (m := m) (p := p1) (o := o) h
    have hsy2 := fun h => sym_bad (l := l) (s := s) (m := m) (p := p1) (o := o) h
    obtain ⟨rr, hrr⟩ : ∃ rr, rr = rdS s l p1 := ⟨_, rfl⟩
    rw [← hrr] at KR hd0 hq hsy1 hsy2
    obtain ⟨d, er, q⟩ := rr
    dsimp only at KR hd0 hq hsy1 hsy2
    obtain ⟨D, rfl⟩ := Int.eq_ofNat_of_zero_le hd0
    have HRES := Aside0.mk hres
    clear hv hp hN hp1 hp1s hrr hd0 hres
    go_enter Try.func91, Try.ntmps91
    go_wp2_with fail
    refine (KL.out w).mono ?_
    rintro e w1 ⟨rfl, hb1⟩
    have HI1 := Aside0.mk (HI.out.below hb1)
    have HT1 := Aside0.mk (TreeAt.below HT.out hb1)
    have HF1 := Aside0.mk hb1
    clear hb1 HI HT KL
    go_wp2_with fail
    refine (KT.out _ HI1.out (Nat.le_trans hB HF1.out.size)).mono ?_
    rintro e w2 ⟨⟨rfl, hi2⟩, hf2⟩
    have HI2 := Aside0.mk hi2
    have HT2 : Aside0 (Tr w2 B' tb l) := ⟨TreeAt.frI HT1.out HI1.out hf2⟩
    have HF2 := Aside0.mk ((Fr.of_below HF1.out (SI B x g w)).si hf2)
    obtain ⟨v2, hb2, _⟩ := hi2.blk
    have c2 : w2.cell? ⟨x, 0, none⟩ = some (.pointer (some ⟨g, 0, none⟩)) := blk_cell hb2 0
    clear hf2 hi2 hb2 HI1 HF1 HT1 KT hx HX
    go_wp2_with fail
    refine (KR.out _ HT2.out HI2.out.rd).mono ?_
    rintro e w3 ⟨rfl, h3, f3⟩
    have HI3 := Aside0.mk (HI2.out.read h3 f3)
    have HF3 := Aside0.mk (HF2.out.si f3.siR)
    clear h3 f3 HI2 HT2 HF2 KR c2
    by_cases her : er = 0
    · subst her
      have hr1 := hsy1 rfl
      have HRES1 := HRES.out
      rw [bind_ok hr1] at HRES1
      clear hsy1 hsy2 HRES hr1
      by_cases hd30 : 30 ≤ D
      · have q1 : decide (30 ≤ (D : Int)) = true := decide_eq_true (by omega)
        have q1n : decide (30 ≤ D) = true := decide_eq_true hd30
        rw [if_pos (by omega)] at HRES1
        unfold RM.err at HRES1
        subst HRES1
        go_wp2_with fail
        repeat (rw [Exit.noGoto_ret])
        go_returns
        exact ⟨rfl, HF3.out⟩
      · have q1 : decide (30 ≤ (D : Int)) = false := decide_eq_false (by omega)
        have q1n : decide (30 ≤ D) = false := decide_eq_false hd30
        rw [if_neg (by omega), Int.toNat_natCast] at HRES1
        obtain ⟨hd1, hd2, hd3⟩ := dist_le D (by omega)
        have HX := Aside0.mk (fun (W : World) => index_dist W D (by omega))
        obtain ⟨da, db, hda⟩ : ∃ da db, distT.getD D (0, 0) = (da, db) := ⟨_, _, rfl⟩
        rw [hda] at hd1 hd2 hd3 HX HRES1
        dsimp only at hd1 hd2 hd3 HX
        have KT := Aside0.mk (fun (W : World) (h : InfAt W B x g s q o m) (hB : B ≤ W.heap.size) => told_calls W B x g s q o m da db h hs (by omega) (by omega) hd3 hB)
        obtain ⟨sv, hsv⟩ : ∃ sv : List Value, sv = spanV distT := ⟨_, rfl⟩
        have KL := Aside0.mk distances_calls
        rw [← hsv] at KL HX
        have hx := HX.out
        clear hsv hda
        by_cases h2 : q + db ≤ 8 * s.size
        · rw [bind_ok (told_ok h2)] at HRES1
          rw [told_ok h2] at KT
          have hv := val_range s q db
          have hp := pow_le2 (show db ≤ 13 by omega)
          obtain ⟨K, hK⟩ := Int.eq_ofNat_of_zero_le (show 0 ≤ da + val s q db by omega)
          rw [hK] at HRES1 KT
          have hK2 : 1 ≤ K ∧ K ≤ 40000 := by omega
          obtain ⟨p2, hp2⟩ : ∃ p2, p2 = q + db := ⟨_, rfl⟩
          rw [← hp2] at HRES1 KT
          rw [bind_ok (show lookM s m p2 o = .ok o p2 o from rfl)] at HRES1
          have HRES := Aside0.mk HRES1
          clear hv hp hK hp2 HRES1
          go_wp2_with fail
          refine (KL.out _).mono ?_
          rintro e w4 ⟨rfl, hb4⟩
          have HI4 := Aside0.mk (HI3.out.below hb4)
          have HF4 := Aside0.mk (HF3.out.then_ (Fr.of_below hb4 _))
          clear hb4 HI3 HF3 KL
          go_wp2_with fail
          refine (KT.out _ HI4.out (Nat.le_trans hB HF4.out.size)).mono ?_
          rintro e w5 ⟨⟨rfl, hi5⟩, hf5⟩
          have HI5 := Aside0.mk hi5
          have HF5 := Aside0.mk (HF4.out.si hf5)
          obtain ⟨v5, hb5, hr5⟩ := hi5.blk
          obtain ⟨A5, n5, k5, hv5, hn5⟩ := hr5.shape
          subst hv5
          obtain rfl := hn5.out
          have c5 : w5.cell? ⟨x, 1, none⟩ = some (.slice A5 o.length k5) := blk_cell hb5 1
          clear hf5 hi5 hb5 hr5 hn5 HI4 HF4 KT hx HX
          by_cases h3 : (o.length : Int) < (K : Int)
          · have q2 : decide ((o.length : Int) < (K : Int)) = true := decide_eq_true h3
            have q2n : decide (o.length < K) = true := decide_eq_true (by omega)
            have HRES1 := HRES.out
            rw [if_pos h3] at HRES1
            unfold RM.err at HRES1
            subst HRES1
            clear HRES
            go_wp2_with fail
            repeat (rw [Exit.noGoto_ret])
            go_returns
            exact ⟨rfl, HF5.out⟩
          · have q2 : decide ((o.length : Int) < (K : Int)) = false := decide_eq_false h3
            have q2n : decide (o.length < K) = false := decide_eq_false (by omega)
            have HRES1 := HRES.out
            rw [if_neg h3, Int.toNat_natCast, Int.toNat_natCast] at HRES1
            unfold outM at HRES1
            rw [copyL_length] at HRES1
            have KM := Aside0.mk (room_calls w5 B x g s p2 o m N HI5.out hm0 (by omega) (by omega) (by omega) (by omega))
            clear HRES
            by_cases h4 : m - (o.length : Int) < (N : Int)
            · rw [if_pos h4] at HRES1 KM
              subst HRES1
              go_wp2_with fail
              refine KM.out.mono ?_
              rintro e w6 ⟨rfl, hd6⟩
              have HF6 := Aside0.mk (HF5.out.then_ (Fr.of_drawn hd6 _))
              clear hd6 HF5 HI5 KM
              go_wp2_with fail
              go_returns
              exact ⟨rfl, HF6.out⟩
            · rw [if_neg h4] at HRES1 KM
              go_wp2_with fail
              refine KM.out.mono ?_
              rintro e w6 ⟨rfl, hd6⟩
              have HF6 := Aside0.mk (HF5.out.then_ (Fr.of_drawn hd6 _))
              have HI6 := Aside0.mk (HI5.out.drawn hd6)
              have HRES := Aside0.mk HRES1
              clear hd6 HF5 HI5 KM HRES1 c5
              go_wp2_with fail
              go_loopw [66] (fun v66 wr => ∃ (j : Nat) (ol : List Int), v66 = .int .i64 j ∧ j ≤ N ∧ ol.length = o.length + j ∧ Aside0 (InfAt wr B x g s p2 ol m ∧ ol ++ copyL K (N - j) ol = o ++ copyL K N o ∧ Fr w wr (SI B x g w))) (fun v66 _ => N - (intOf v66).toNat)
              case atStart => exact ⟨0, o, rfl, by omega, by omega, HI6.out, by simp, HF6.out⟩
              case round =>
                clear HI6 HF6
                obtain ⟨j, ol, rfl, hj, hol, HW⟩ := hrel
                by_cases hlt : j < N
                · have r1 : decide ((j : Int) < (N : Int)) = true := decide_eq_true (by omega)
                  have r1n : decide (j < N) = true := decide_eq_true hlt
                  obtain ⟨v7, hb7, hr7⟩ := HW.out.1.blk
                  obtain ⟨A7, k7, hv7, hrd7⟩ := hr7.reads
                  subst hv7
                  obtain ⟨ix, hix⟩ : ∃ ix, ix = ol.length - K := ⟨_, rfl⟩
                  have hix2 : (ol.length : Int) - (K : Int) = (ix : Int) := by omega
                  obtain ⟨ad, hadd, hcell⟩ := ReadsInt.at_ hrd7 (ix : Int) (by omega) (by omega)
                  subst hadd
                  rw [Int.toNat_natCast, rd, Int.toNat_natCast] at hcell
                  obtain ⟨y, hy⟩ : ∃ y, y = ol.getD ix 0 := ⟨_, rfl⟩
                  rw [← hy] at hcell
                  have HY : Aside0 (y = ol.getD (ol.length - K) 0) := ⟨by rw [hy, hix]⟩
                  have hixl : ix < ol.length := by omega
                  have hixI0 : (0 : Int) ≤ (ix : Int) := by omega
                  have hixI1 : (ix : Int) < (ol.length : Int) := by omega
                  have hixW : IntKind.i64.wrap (ix : Int) = (ix : Int) := by rw [IntKind.wrap_i64]; omega
                  have c7 : wr.cell? ⟨x, 1, none⟩ = some (.slice (some ad) ol.length k7) := blk_cell hb7 1
                  have HR7 : Aside0 (_ ∧ _) := ⟨hb7, hr7⟩
                  have hBw : B ≤ wr.heap.size := Nat.le_trans hB HW.out.2.2.size
                  have hl1 : ol.length + 1 ≤ maxLen := by unfold maxLen; omega
                  have hl2 : (ol.length + 1) * 1 ≤ 140737488355328 := by omega
                  have HLN := Aside0.mk hol
                  have hnw : ∀ j u, (nums .u8 [y])[j]? = some u → (wr.alloc (.cells #[.int .u8 y] 5)).drew.cell? ((⟨wr.heap.size, 0, none⟩ : Addr).add j) = some u := news_lit wr .u8 [y] #[.int .u8 y] 5 rfl
                  have hrw : Row (wr.alloc (.cells #[.int .u8 y] 5)).drew B 5 .u8 (.slice (some ad) ol.length k7) ol := (HR7.out.2.alloc (.cells #[.int .u8 y] 5)).drew
                  have hBy : B ≤ (wr.alloc (.cells #[.int .u8 y] 5)).drew.heap.size := by simp; omega
                  have e7 : (wr.alloc (.cells #[.int .u8 y] 5)).drew.cell? ⟨x, 1, none⟩ = some (.slice (some ad) ol.length k7) := (blk_cell (blk_alloc (show wr.heap[x]? = _ from HR7.out.1) _) 1)
                  have e8 : (wr.alloc (.cells #[.int .u8 y] 5)).drew.cell? (ad.add ix) = some (.int .u8 y) := ((below_alloc (Below.refl wr.heap.size wr) _).cell (World.block_lt_of_cell? wr _ hcell)).trans hcell
                  clear hix hy hb7 hr7 hrd7 hol
                  go_wp2_with fail
                  go_region_law ((refine app_step B rfl _ _ 25 5 .u8 1 rfl Try.underlying25 infoU8 (.slice (some ad) ol.length k7) ol [y] rfl ⟨wr.heap.size, 0, none⟩ 1 1 rfl rfl hnw hrw hBy hl1 hl2 ?_; intro v8 w8 hap; obtain ⟨A8, n8, k8, hv8, hn8⟩ := hap.row.shape; subst hv8; have hap1 := hap.undrew; have hb8 := hap1.blk1 HR7.out.2 HR7.out.1 (by decide); have f8 := blk_frozen hb8 1; have d8 : w8.cell? ⟨x, 1, none⟩ = some (.slice (some ad) ol.length k7) := blk_cell hb8 1))
                  all_goals
                    have HK := Aside0.mk (HW.out.1.app HR7.out.1 HR7.out.2 hBw hap1)
                    have hcs := copyL_snoc K (N - (j + 1)) ol
                    rw [show N - (j + 1) + 1 = N - j by omega, ← HY.out] at hcs
                    have HE : Aside0 (ol ++ [y] ++ copyL K (N - (j + 1)) (ol ++ [y]) = o ++ copyL K N o) := ⟨hcs.symm.trans HW.out.2.1⟩
                    clear hap hap1 hb8 f8 d8 hnw hrw hBy e7 e8 c7 hcell hcs HY
                    go_wp2_with fail
                    go_roundw
                    case rel => exact ⟨j + 1, ol ++ [y], by go_num, by omega, by rw [List.length_append, List.length_singleton, HLN.out]; omega, HK.out.1, HE.out, HW.out.2.2.si HK.out.2⟩
                    case measure => simp [intOf]; omega
                · have r1 : decide ((j : Int) < (N : Int)) = false := decide_eq_false (by omega)
                  have r1n : decide (j < N) = false := decide_eq_false hlt
                  obtain rfl : j = N := by omega
                  go_wp2_with fail
                  go_returns
                  have he := HW.out.2.1
                  rw [Nat.sub_self, copyL, List.append_nil] at he
                  refine ⟨?_, HW.out.2.2⟩
                  rw [HRES.out, ← he]
                  exact ⟨rfl, HW.out.1⟩
        · rw [bind_bad (told_bad h2)] at HRES1
          rw [told_bad h2] at KT
          subst HRES1
          go_wp2_with fail
          refine (KL.out _).mono ?_
          rintro e w4 ⟨rfl, hb4⟩
          have HI4 := Aside0.mk (HI3.out.below hb4)
          have HF4 := Aside0.mk (HF3.out.then_ (Fr.of_below hb4 _))
          clear hb4 HI3 HF3 KL
          go_wp2_with fail
          refine (KT.out _ HI4.out (Nat.le_trans hB HF4.out.size)).mono ?_
          rintro e w5 ⟨rfl, hf5⟩
          have HF5 := Aside0.mk (HF4.out.si hf5)
          clear hf5 HI4 HF4 KT
          go_wp2_with fail
          repeat (rw [Exit.noGoto_ret])
          go_returns
          exact ⟨rfl, HF5.out⟩
    · have hr1 := hsy2 her
      have HRES1 := HRES.out
      rw [bind_bad hr1] at HRES1
      subst HRES1
      have q1 : (er != 0) = true := by simpa using her
      clear hsy1 hsy2 HRES hr1 her
      go_wp2_with fail
      repeat (rw [Exit.noGoto_ret])
      go_returns
      exact ⟨rfl, HF3.out⟩
  · rw [bind_bad (told_bad h1)] at hres
    rw [told_bad h1] at KT
    subst hres
    go_enter Try.func91, Try.ntmps91
    go_wp2_with fail
    refine (KL.out w).mono ?_
    rintro e w1 ⟨rfl, hb1⟩
    have HI1 := Aside0.mk (HI.out.below hb1)
    have HF1 := Aside0.mk hb1
    clear hb1 HI
    go_wp2_with fail
    refine (KT.out _ HI1.out (Nat.le_trans hB HF1.out.size)).mono ?_
    rintro e w2 ⟨rfl, hf2⟩
    have HF2 := Aside0.mk ((Fr.of_below HF1.out (SI B x g w)).si hf2)
    clear hf2 HI1 HF1 KT
    go_wp2_with fail
    go_returns
    exact ⟨rfl, HF2.out⟩
end Go.Proofs.Ytfoicjlkbkjfjaa.Hand
namespace Go.Proofs.Ytfoicjlkbkjfjaa.Hand
open Go.RowKit Go.Proofs.YtfoicjlkbkjfjaaW.PrintWords Go.Proofs.YtfoicjlkbkjfjaaW.PrintLast Go.Proofs.YtfoicjlkbkjfjaaW.PrintMore Go.Proofs.Ytfoicjlkbkjfjaa.Num Go.Proofs.Ytfoicjlkbkjfjaa.Bits
set_option linter.unusedVariables false
set_option linter.unusedSimpArgs false
theorem infoU8' : (Try.prog.info? 5).map (fun i => (i.zero, i.size, i.bytes)) = some (some (.int .u8 0), 1, 1) := by kernel_rfl
theorem rdS_big (s : ByteArray) (l : List Int) (p : Nat) (hl : l.length ≤ 320) : (rdS s l p).1 ≤ 320 := by
  have key : ∀ (d n : Nat) (code first at_ : Int) (q : Nat), (rdT s (cntL l) (symA l 16) (lgA l 16).toNat d n code first at_ q).1 ≤ 320 := by
    have hsy : ∀ n, ∀ x ∈ symA l n, x ≤ 320 := fun n => by
      induction n with
      | zero => intro x hx; simp [symA] at hx
      | succ n ih =>
        cases n with
        | zero => intro x hx; simp [symA] at hx
        | succ n =>
          intro x hx
          rw [symA] at hx
          rcases List.mem_append.1 hx with hx | hx
          · exact ih x hx
          · simp only [symP, List.mem_map, List.mem_filter, List.mem_range] at hx
            obtain ⟨j, ⟨hj, _⟩, rfl⟩ := hx
            omega
    intro d
    induction d with
    | zero => intro n code first at_ q; rw [rdT]; show (0 : Int) ≤ 320; decide
    | succ d ih =>
      intro n code first at_ q
      rw [rdT]
      split
      · split
        · split
          · exact ih _ _ _ _ _
          · dsimp only
            rw [List.getD_eq_getElem?_getD]
            cases hc : (symA l 16)[(at_ + (2 * code + val s q 1) - first * 2).toNat]? with
            | none => simp
            | some z => exact hsy 16 z (List.mem_of_getElem? hc)
        · show (0 : Int) ≤ 320; decide
      · show (0 : Int) ≤ 320; decide
  exact key _ _ _ _ _ _
set_option maxRecDepth 100000 in
set_option maxHeartbeats 4000000 in
theorem coded_calls (w : World) (B B1 B2 x g ta tb : Nat) (near far : List Int) (s : ByteArray) (p : Nat) (o : List Int) (m : Int) (k : Nat) (h : InfAt w B x g s p o m) (hTa : Tr w B1 ta near) (hTb : Tr w B2 tb far) (hma : mayF near = 0) (hmb : mayF far = 0) (hs : s.size ≤ 1000000) (hB : B ≤ w.heap.size) (hm0 : 0 ≤ m) (hm : m ≤ 10000000) (ho : (o.length : Int) ≤ m) (hp : p ≤ 8 * s.size) (hk : 8 * s.size < p + k) :
    Calls Try.prog 80 #[.pointer (some ⟨x, 0, none⟩), .pointer (some ⟨ta, 0, none⟩), .pointer (some ⟨tb, 0, none⟩)] w fun e w' =>
      Left (codedM near far k s m p o) (fun _ => .int .i64 0) (fun c => .int .i64 c) w' B x g s m e ∧ Fr w w' (SI B x g w) := by
  obtain ⟨res, hres⟩ : ∃ res, res = codedM near far k s m p o := ⟨_, rfl⟩
  rw [← hres]
  have HRES := Aside0.mk hres
  have H0 : Aside0 (_ ∧ _ ∧ _) := ⟨h, hTa, hTb⟩
  clear h hTa hTb hres
  go_enter Try.func80, Try.ntmps80
  go_wp2_with fail
  refine wp_scope_straight ?_
  go_wp2_with fail
  refine wp_label ?_
  go_wp2_with fail
  go_loopg [] k (fun kq wr => ∃ (p1 : Nat) (o1 : List Int), p1 ≤ 8 * s.size ∧ 8 * s.size < p1 + kq ∧ (o1.length : Int) ≤ m ∧ Aside0 (InfAt wr B x g s p1 o1 m ∧ Tr wr B1 ta near ∧ Tr wr B2 tb far ∧ res = codedM near far kq s m p1 o1 ∧ Fr w wr (SI B x g w)))
  case atStart => exact ⟨p, o, hp, hk, ho, H0.out.1, H0.out.2.1, H0.out.2.2, HRES.out, Fr.refl _ _⟩
  case round =>
    clear H0 HRES hp hk ho
    obtain ⟨p1, o1, hp1, hk1, ho1, HW⟩ := hrel
    cases gk with
    | zero => exact absurd hk1 (by omega)
    | succ k1 =>
      have KR := Aside0.mk (tread_calls wr B1 ta g near s p1 hma HW.out.2.1 HW.out.1.rd hs)
      have hd0 := rdS_nonneg s near p1
      have hdb := rdS_big s near p1 (may_zero hma).1
      have hq := rdS_le s near p1 hp1
      have hadv := fun h => rdS_adv (s := s) (l := near) (p := p1) hp1 h
      have hsy1 := fun h => sym_ok (l := near) (s := s) (m := m) (p := p1) (o := o1) h
      have hsy2 := fun h => sym_bad (l := near) (s := s) (m := m) (p := p1) (o := o1) h
      have hrec := HW.out.2.2.2.1
      rw [codedM] at hrec
      obtain ⟨rr, hrr⟩ : ∃ rr, rr = rdS s near p1 := ⟨_, rfl⟩
      rw [← hrr] at KR hd0 hdb hq hsy1 hsy2 hadv
      obtain ⟨d, er, q⟩ := rr
      dsimp only at KR hd0 hdb hq hsy1 hsy2 hadv
      obtain ⟨D, rfl⟩ := Int.eq_ofNat_of_zero_le hd0
      obtain ⟨v1, hb1, _⟩ := HW.out.1.blk
      have c1 : wr.cell? ⟨x, 0, none⟩ = some (.pointer (some ⟨g, 0, none⟩)) := blk_cell hb1 0
      have HREC := Aside0.mk hrec
      clear hrr hb1 hd0 hrec
      go_wp2_with fail
      refine KR.out.mono ?_
      rintro e w3 ⟨rfl, h3, f3⟩
      have HI3 := Aside0.mk (HW.out.1.read h3 f3)
      have HT3 : Aside0 (Tr w3 B1 ta near ∧ Tr w3 B2 tb far) := ⟨TreeAt.frR HW.out.2.1 HW.out.1.rd f3, TreeAt.frR HW.out.2.2.1 HW.out.1.rd f3⟩
      have HF3 := Aside0.mk (HW.out.2.2.2.2.si f3.siR)
      clear h3 f3 HW KR c1
      by_cases her : er = 0
      · subst her
        have hr1 := hsy1 rfl
        have hadv1 := hadv rfl
        have HREC1 := HREC.out
        rw [bind_ok hr1] at HREC1
        clear hsy1 hsy2 HREC hr1 hadv
        by_cases h256 : D = 256
        · subst h256
          rw [if_pos (by decide)] at HREC1
          unfold RM.ret at HREC1
          subst HREC1
          go_wp2_with fail
          repeat (rw [Exit.noGoto_ret])
          go_returns
          exact ⟨⟨rfl, HI3.out⟩, HF3.out⟩
        · have q1 : ((D : Int) == 256) = false := beq_eq_false_iff_ne.2 (by omega)
          have q1n : (D == 256) = false := beq_eq_false_iff_ne.2 h256
          rw [if_neg (by omega)] at HREC1
          by_cases h286 : 286 ≤ D
          · have q2 : decide (286 ≤ (D : Int)) = true := decide_eq_true (by omega)
            have q2n : decide (286 ≤ D) = true := decide_eq_true h286
            rw [if_pos (by omega)] at HREC1
            unfold RM.err at HREC1
            subst HREC1
            go_wp2_with fail
            repeat (rw [Exit.noGoto_ret])
            go_returns
            exact ⟨rfl, HF3.out⟩
          · have q2 : decide (286 ≤ (D : Int)) = false := decide_eq_false (by omega)
            have q2n : decide (286 ≤ D) = false := decide_eq_false h286
            rw [if_neg (by omega)] at HREC1
            by_cases hbig : 256 < D
            · have q3 : decide (256 < (D : Int)) = true := decide_eq_true (by omega)
              have q3n : decide (256 < D) = true := decide_eq_true hbig
              rw [if_pos (by omega)] at HREC1
              obtain ⟨sy, hsy⟩ : ∃ sy, D = sy + 257 := ⟨D - 257, by omega⟩
              have e1 : (D : Int) - 256 - 1 = (sy : Int) := by omega
              have e2 : ((D : Int) - 257).toNat = sy := by omega
              rw [e2] at HREC1
              have KP := Aside0.mk (repeat_calls w3 B B2 x g tb sy far s q o1 m HI3.out HT3.out.2 hmb (by omega) hs (Nat.le_trans hB HF3.out.size) hm0 hm ho1)
              have hG := fun a p' o' h => (Good.repeat_ sy far).mono (s := s) (m := m) (p := q) (o := o1) (a := a) (p' := p') (o' := o') hq h
              have hR := fun a p' o' h => ((Good.repeat_ sy far).room (s := s) (m := m) (p := q) (o := o1) (a := a) (p' := p') (o' := o') m hq h ho1 ho1).1
              have hN := fun c h => (NZ.repeat_ sy far).nz (s := s) (m := m) (p := q) (o := o1) (c := c) h
              clear hsy
              go_wp2_with fail
              refine KP.out.mono ?_
              rintro e w4 ⟨hleft, hf4⟩
              cases hr : repeatM sy far s m q o1 with
              | bad c =>
                rw [hr] at hleft
                obtain rfl := hleft
                rw [bind_bad hr] at HREC1
                subst HREC1
                have q4 : (c != 0) = true := by simpa using hN c hr
                have HF4 := Aside0.mk (HF3.out.si hf4)
                clear hf4 KP hG hR hN hr HI3 HT3 HF3
                go_wp2_with fail
                repeat (rw [Exit.noGoto_ret])
                go_returns
                exact ⟨rfl, HF4.out⟩
              | ok a p4 o4 =>
                rw [hr] at hleft
                obtain ⟨rfl, hi4⟩ := hleft
                rw [bind_ok hr] at HREC1
                have hg4 := hG a p4 o4 hr
                have hr4 := hR a p4 o4 hr
                have HW4 : Aside0 (InfAt w4 B x g s p4 o4 m ∧ Tr w4 B1 ta near ∧ Tr w4 B2 tb far ∧ res = codedM near far k1 s m p4 o4 ∧ Fr w w4 (SI B x g w)) := ⟨hi4, TreeAt.frI HT3.out.1 HI3.out hf4, TreeAt.frI HT3.out.2 HI3.out hf4, HREC1, HF3.out.si hf4⟩
                clear hf4 hi4 KP hG hR hN hr HI3 HT3 HF3 HREC1
                go_wp2_with fail
                go_roundg k1
                case measure => omega
                case rel => exact ⟨p4, o4, by omega, by omega, hr4, HW4⟩
            · have q3 : decide (256 < (D : Int)) = false := decide_eq_false (by omega)
              have q3n : decide (256 < D) = false := decide_eq_false hbig
              rw [if_neg (by omega)] at HREC1
              have KM := Aside0.mk (room_calls w3 B x g s q o1 m 1 HI3.out hm0 (by omega) (by omega) (by omega) (by omega))
              by_cases hroom : m - (o1.length : Int) < 1
              · rw [if_pos hroom] at KM
                rw [bind_bad (show outM [(D : Int) % 256] s m q o1 = .bad 7 by unfold outM; rw [if_pos (by simpa using hroom)])] at HREC1
                subst HREC1
                go_wp2_with fail
                refine KM.out.mono ?_
                rintro e w4 ⟨rfl, hd4⟩
                have HF4 := Aside0.mk (HF3.out.then_ (Fr.of_drawn hd4 _))
                clear hd4 KM HI3 HT3 HF3
                go_wp2_with fail
                repeat (rw [Exit.noGoto_ret])
                go_returns
                exact ⟨rfl, HF4.out⟩
              · rw [if_neg hroom] at KM
                rw [bind_ok (show outM [(D : Int) % 256] s m q o1 = .ok () q (o1 ++ [(D : Int) % 256]) by unfold outM; rw [if_neg (by simpa using hroom)])] at HREC1
                go_wp2_with fail
                refine KM.out.mono ?_
                rintro e w4 ⟨rfl, hd4⟩
                have HI4 := Aside0.mk (HI3.out.drawn hd4)
                have HT4 : Aside0 (Tr w4 B1 ta near ∧ Tr w4 B2 tb far) := ⟨TreeAt.drawn HT3.out.1 hd4, TreeAt.drawn HT3.out.2 hd4⟩
                have HF4 := Aside0.mk (HF3.out.then_ (Fr.of_drawn hd4 _))
                have HREC := Aside0.mk HREC1
                clear hd4 KM HI3 HT3 HF3 HREC1
                obtain ⟨v4, hb4, hr4⟩ := HI4.out.blk
                obtain ⟨A4, n4, k4, hv4, hn4⟩ := hr4.shape
                subst hv4
                have HR4 : Aside0 (_ ∧ _) := ⟨hb4, hr4⟩
                have c4 : w4.cell? ⟨x, 1, none⟩ = some (.slice A4 n4 k4) := blk_cell hb4 1
                obtain ⟨y, hy⟩ : ∃ y : Int, y = (D : Int) % 256 := ⟨_, rfl⟩
                have hyw : IntKind.u8.wrap (D : Int) = y := (IntKind.wrap_u8 _).trans hy.symm
                rw [← hy] at HREC
                have hBw : B ≤ w4.heap.size := Nat.le_trans hB HF4.out.size
                have hl1 : o1.length + 1 ≤ maxLen := by unfold maxLen; omega
                have hl2 : (o1.length + 1) * 1 ≤ 140737488355328 := by omega
                have hBx : B ≤ (w4.alloc (.cells #[.int .u8 y] 5)).heap.size := by simp; omega
                clear hb4 hr4 hn4 hy
                go_wp2_with (at_builtin; refine app_wp B rfl _ _ 25 5 .u8 1 rfl Try.underlying25 infoU8' (.slice A4 n4 k4) o1 [y] rfl ⟨w4.heap.size, 0, none⟩ 1 1 rfl rfl (news_lit w4 .u8 [y] _ _ (by rfl)) (HR4.out.2.alloc _) hBx hl1 hl2 ?_; intro v8 w8 hap; obtain ⟨A8, n8, k8, hv8, hn8⟩ := hap.row.shape; subst hv8; have hb8 := hap.blk1 HR4.out.2 HR4.out.1 (by decide); have f8 := blk_frozen hb8 1; have d8 : w8.cell? ⟨x, 1, none⟩ = some (.slice A4 n4 k4) := blk_cell hb8 1)
                have HK := Aside0.mk (HI4.out.app HR4.out.1 HR4.out.2 hBw hap)
                have HW8 : Aside0 (InfAt _ B x g s q (o1 ++ [y]) m ∧ Tr _ B1 ta near ∧ Tr _ B2 tb far ∧ res = codedM near far k1 s m q (o1 ++ [y]) ∧ Fr w _ (SI B x g w)) := ⟨HK.out.1, TreeAt.frI HT4.out.1 HI4.out HK.out.2, TreeAt.frI HT4.out.2 HI4.out HK.out.2, HREC.out, HF4.out.si HK.out.2⟩
                clear hap hb8 f8 d8 HK HI4 HT4 HF4 HREC HR4 c4
                go_roundg k1
                case measure => omega
                case rel => exact ⟨q, o1 ++ [y], by omega, by omega, by rw [List.length_append, List.length_singleton]; omega, HW8⟩
      · have hr1 := hsy2 her
        have HREC1 := HREC.out
        rw [bind_bad hr1] at HREC1
        subst HREC1
        have q1 : (er != 0) = true := by simpa using her
        clear hsy1 hsy2 HREC hr1 her hadv
        go_wp2_with fail
        repeat (rw [Exit.noGoto_ret])
        go_returns
        exact ⟨rfl, HF3.out⟩
end Go.Proofs.Ytfoicjlkbkjfjaa.Hand
