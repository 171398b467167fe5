/- Codes: counts by an array, walked by hand. -/
import Derived.Test.YtghoifkaikddlaaGreatBits
import Derived.Deep.MidRow
namespace Go.Proofs.YtghoifkaikddlaaGreat.Hand
open Go.RowKit Go.Proofs.YtghoifkaikddlaaGreatW.PrintWords Go.Proofs.YtghoifkaikddlaaGreatW.PrintLast Go.Proofs.YtghoifkaikddlaaGreatW.PrintMore Go.Proofs.YtghoifkaikddlaaGreat.Num
set_option linter.unusedVariables false
set_option linter.unusedSimpArgs false
def cntS : List Int → List Int → List Int
 | cs, [] => cs
 | cs, n :: t => cntS (cs.set n.toNat (cs.getD n.toNat 0 + 1)) t
theorem cntS_snoc : ∀ (l : List Int) (cs : List Int) (n : Int), cntS cs (l ++ [n]) = (cntS cs l).set n.toNat ((cntS cs l).getD n.toNat 0 + 1)
 | [], _, _ => rfl
 | _ :: t, _, _ => cntS_snoc t _ _
theorem cntS_length : ∀ (l cs : List Int), (cntS cs l).length = cs.length
 | [], _ => rfl
 | _ :: t, _ => by rw [cntS, cntS_length t, List.length_set]
def zeros : List Int := List.replicate 16 0
theorem cntS_range : ∀ (l cs : List Int) (B : Int), (∀ x ∈ cs, 0 ≤ x ∧ x ≤ B) → 0 ≤ B → ∀ x ∈ cntS cs l, 0 ≤ x ∧ x ≤ B + l.length
 | [], cs, B, h, _ => by simpa [cntS] using h
 | n :: t, cs, B, h, hB => by
  intro x hx
  have h2 := cntS_range t _ (B + 1) (fun y hy => ?_) (by omega) x hx
  ·rw [List.length_cons]; omega
  ·have hg : 0 ≤ cs.getD n.toNat 0 ∧ cs.getD n.toNat 0 ≤ B := by
    rw [List.getD_eq_getElem?_getD]
    cases hc : cs[n.toNat]? with
    | none => simpa using hB
    | some z => exact h z (List.mem_of_getElem? hc)
   rcases List.mem_or_eq_of_mem_set hy with hy | rfl
   ·have := h y hy; omega
   ·omega
def cntE (l : List Int) : Int := if 320 < l.length then 2 else if l.all (fun n => decide (0 ≤ n ∧ n ≤ 15)) then 0 else 3
def cntL (l : List Int) : List Int := if cntE l = 0 then (cntS zeros l).set 0 0 else zeros
def putL0 (cs : List Value) : Nat → List Value → List Value
 | _, [] => cs
 | o, v :: vs => putL0 (cs.set o v) (o + 1) vs
theorem putL0_over : ∀ (vs a b : List Value), b.length = vs.length → putL0 (a ++ b) a.length vs = a ++ vs
 | [], a, b, h => by rw [List.length_eq_zero_iff.1 h]; rfl
 | v :: vs, a, [], h => by simp at h
 | v :: vs, a, x :: b, h => by
  have := putL0_over vs (a ++ [v]) b (by simpa using h)
  rw [List.length_append, List.length_singleton] at this
  simpa [putL0] using this
theorem setCells_put (g : Nat) (t : TypeId) : ∀ (vs : List Value) (o : Nat) (w : World) (cs : List Value), w.heap[g]? = some (.cells cs.toArray t (0, 0)) → (w.setCells g o vs).heap[g]? = some (.cells (putL0 cs o vs).toArray t (0, 0))
 | [], _, _, _, h => h
 | v :: vs, o, w, cs, h => by
  have := setCells_put g t vs (o + 1) (w.setCell ⟨g, o, none⟩ v) (cs.set o v) ((blk_set h o v).trans (by simp))
  exact this
theorem setCells_blk {g : Nat} {t : TypeId} {w : World} {cs vs : List Value} (h : w.heap[g]? = some (.cells cs.toArray t (0, 0))) (hl : cs.length = vs.length) : (w.setCells g 0 vs).heap[g]? = some (.cells vs.toArray t (0, 0)) := by
 have := setCells_put g t vs 0 w cs h
 rwa [show putL0 cs 0 vs = vs from by simpa using putL0_over vs [] cs hl] at this
theorem setCells_fr (g : Nat) : ∀ (vs : List Value) (o : Nat) (w : World), Fr w (w.setCells g o vs) (· = g)
 | [], _, w => Fr.refl w _
 | v :: vs, o, w => ((Fr.refl w _).set1 o v).then_ (setCells_fr g vs (o + 1) _)
theorem arr_range {g : Nat} {t : TypeId} {w : World} {cs : List Value} (h : w.heap[g]? = some (.cells cs.toArray t (0, 0))) : w.rangeAt g 0 cs := fun j v hv => by
 rw [Nat.zero_add]
 exact (blk_cell h j).trans (by simpa using hv)
theorem arr_there {g : Nat} {t : TypeId} {w : World} {cs : List Value} (h : w.heap[g]? = some (.cells cs.toArray t (0, 0))) (n : Nat) (hn : n = cs.length) : w.there g 0 n := fun j hj => by
 subst hn
 rw [Nat.zero_add]
 exact ⟨by rw [blk_cell h j]; simp [hj], blk_frozen h j⟩
theorem results_cell_slot {P : Program} {fn : Func} {p q : Tmp} {ty : TypeId} (h : fn.results = #[.cell p ty, .tmp q]) (tmps : Array Value) (w : World) (v : Value) {g : Nat} (hl : (loadVar ty ⟨g, 0, none⟩).run P w = .ok v w)
  (hp : tmps.getD p undef = .pointer (some ⟨g, 0, none⟩)) : (results fn tmps).run P w = .ok (.tuple #[v, tmps.getD q undef]) w := by
 have hp' : tmps[p]?.getD undef = .pointer (some ⟨g, 0, none⟩) := by simpa using hp
 simp [results, h, hp', asAddr, hl]
theorem nums_one (k : IntKind) (cs : List Int) : ∀ v ∈ nums k cs, v.oneCell' = true := fun u hu => by simp [nums] at hu; obtain ⟨z, _, rfl⟩ := hu; rfl
theorem infoArr : (Tryz.prog.info? 177).map (·.size) = some 16 := by kernel_rfl
set_option maxRecDepth 100000 in
set_option maxHeartbeats 4000000 in
theorem counted_calls (A : Option Addr) (n c : Nat) (l : List Int) (w : World) (hn : n = l.length) (hr : ReadsInt w .i64 A l.length l) (hc : n ≤ c) :
  Calls Tryz.prog 169 #[.slice A n c] w fun e w' => e = .returned (.tuple #[.agg (nums .i64 (cntL l)).toArray, .int .i64 (cntE l)]) ∧ Below w.heap.size w w' := by
 subst hn
 by_cases h1 : 320 < l.length
 ·have q1 : decide ((320 : Int) < (l.length : Int)) = true := decide_eq_true (by omega)
  have q1n : decide (320 < l.length) = true := decide_eq_true h1
  go_enter Tryz.func169, Tryz.ntmps169
  go_wp2_with fail
  have e1 : cntE l = 2 := by unfold cntE; rw [if_pos h1]
  have e2 : cntL l = zeros := by unfold cntL; rw [e1, if_neg (by decide)]
  rw [e1, e2]
  have hv := run_loadVar_row (P := Tryz.prog) ((w.alloc (.cells (nums .i64 zeros).toArray 177)).alloc (.cells (nums .i64 zeros).toArray 177)) w.heap.size 177 177 (nums .i64 zeros).toArray (0, 0) _ (heap_alloc2_old _ _ _) Tryz.underlying177 rfl infoArr
  exact bodyPost_ret (results_cell_slot Tryz.results169 _ _ _ hv rfl) rfl ⟨rfl, below_alloc (below_alloc (Below.refl _ _) _) _⟩
 ·have q1 : decide ((320 : Int) < (l.length : Int)) = false := decide_eq_false (by omega)
  have q1n : decide (320 < l.length) = false := decide_eq_false h1
  have HR := Aside0.mk hr
  clear hr
  go_enter Tryz.func169, Tryz.ntmps169
  go_wp2_with fail
  obtain ⟨g, hg⟩ : ∃ g, g = w.heap.size := ⟨_, rfl⟩
  go_loopw [6, 13] (fun _ v13 wr => ∃ (i : Nat) (cs : List Int), i ≤ l.length ∧ v13 = .int .i64 i ∧ Aside0 (cs = cntS zeros (l.take i) ∧ ∀ x ∈ l.take i, 0 ≤ x ∧ x ≤ 15) ∧ Aside0 (wr.heap[w.heap.size]? = some (.cells (nums .i64 zeros).toArray 177 (0, 0)) ∧ wr.heap[w.heap.size + 1]? = some (.cells (nums .i64 cs).toArray 177 (0, 0))) ∧ Aside0 (Below w.heap.size w wr)) (fun _ v13 _ => l.length - (intOf v13).toNat)
  case atStart => exact ⟨0, zeros, by omega, rfl, ⟨rfl, by simp⟩, ⟨heap_alloc2_old _ _ _, heap_alloc2_new _ _ _⟩, ⟨below_alloc (below_alloc (Below.refl _ _) _) _⟩⟩
  case round =>
   obtain ⟨i, cs, hi, rfl, HC, HH, HB⟩ := hrel
   by_cases hlt : i < l.length
   ·have q3 : decide ((i : Int) < (l.length : Int)) = true := decide_eq_true (by omega)
    have q3n : decide (i < l.length) = true := decide_eq_true hlt
    obtain ⟨ad, ha, hcell⟩ := ReadsInt.at_ HR.out (i : Int) (by omega) (by omega)
    cases ha
    rw [Int.toNat_natCast] at hcell
    have d0 := (HB.out.cell (World.block_lt_of_cell? w _ hcell)).trans hcell
    obtain ⟨x, hx⟩ : ∃ x, x = rd l (i : Int) := ⟨_, rfl⟩
    rw [← hx] at d0
    have hxl : l.take (i + 1) = l.take i ++ [x] := by
     rw [List.take_succ_eq_append_getElem hlt, hx, rd, Int.toNat_natCast, List.getD_eq_getElem?_getD, List.getElem?_eq_getElem hlt]; rfl
    have hmem : x ∈ l := by
     have h0 : x ∈ l.take (i + 1) := by rw [hxl]; simp
     exact List.mem_of_mem_take h0
    clear hx hcell
    by_cases hbad : x < 0 ∨ 15 < x
    ·have e1 : cntE l = 3 := by
      unfold cntE
      rw [if_neg h1, if_neg]
      intro hall
      have := List.all_eq_true.1 hall x hmem
      simp at this
      omega
     have e2 : cntL l = zeros := by unfold cntL; rw [e1, if_neg (by decide)]
     have HE := Aside0.mk (And.intro e1 e2)
     have q4 : (decide (x < 0) || decide (15 < x)) = true := by simp; exact hbad
     clear hxl hmem HC e1 e2
     by_cases hneg : x < 0
     ·have q5 : decide (x < 0) = true := decide_eq_true hneg
      clear hbad q4
      go_wp2_with (refine wpList_store_mid rfl 177 _ _ rfl w.heap.size 0 (nums .i64 zeros).toArray rfl rfl (arr_there HH.out.1 _ rfl) infoArr (all_oneCell_toArray (nums_one _ _)) ?_)
      repeat (rw [Exit.noGoto_ret])
      refine bodyPost_ret (results_cell_slot Tryz.results169 _ _ _ (run_loadVar_row (P := Tryz.prog) _ w.heap.size 177 177 (nums .i64 zeros).toArray (0, 0) _ (setCells_blk HH.out.1 rfl) Tryz.underlying177 rfl infoArr) rfl) rfl ⟨?_, HB.out.trans ((setCells_fr _ _ _ _).below (by rintro k rfl; exact Nat.le_refl _) HB.out.size)⟩
      rw [HE.out.1, HE.out.2]; rfl
     ·have q5 : decide (x < 0) = false := decide_eq_false hneg
      have q6 : decide (15 < x) = true := decide_eq_true (by omega)
      clear hbad q4
      go_wp2_with (refine wpList_store_mid rfl 177 _ _ rfl w.heap.size 0 (nums .i64 zeros).toArray rfl rfl (arr_there HH.out.1 _ rfl) infoArr (all_oneCell_toArray (nums_one _ _)) ?_)
      repeat (rw [Exit.noGoto_ret])
      refine bodyPost_ret (results_cell_slot Tryz.results169 _ _ _ (run_loadVar_row (P := Tryz.prog) _ w.heap.size 177 177 (nums .i64 zeros).toArray (0, 0) _ (setCells_blk HH.out.1 rfl) Tryz.underlying177 rfl infoArr) rfl) rfl ⟨?_, HB.out.trans ((setCells_fr _ _ _ _).below (by rintro k rfl; exact Nat.le_refl _) HB.out.size)⟩
      rw [HE.out.1, HE.out.2]; rfl
    ·have q5 : decide (x < 0) = false := decide_eq_false (by omega)
     have q6 : decide (15 < x) = false := decide_eq_false (by omega)
     obtain ⟨m, rfl⟩ := Int.eq_ofNat_of_zero_le (show 0 ≤ x by omega)
     have hm : m ≤ 15 := by omega
     have hcl : cs.length = 16 := by rw [HC.out.1, cntS_length]; rfl
     have hcr := cntS_range (l.take i) zeros 0 (by unfold zeros; simp) (by omega)
     rw [← HC.out.1, List.length_take] at hcr
     obtain ⟨y, hy⟩ : ∃ y, y = cs.getD m 0 := ⟨_, rfl⟩
     have hyr : 0 ≤ y ∧ y ≤ 320 := by
      have := hcr y (by rw [hy, List.getD_eq_getElem?_getD, List.getElem?_eq_getElem (by omega)]; exact List.getElem_mem _)
      omega
     have hy2 : (nums .i64 cs).toArray[m]? = some (.int .i64 y) := by
      rw [hy, List.getD_eq_getElem?_getD]; simp [nums, List.getElem?_eq_getElem (show m < cs.length by omega)]
     have d1 : wr.cell? ⟨w.heap.size + 1, m, none⟩ = some (.int .i64 y) := (blk_cell HH.out.2 m).trans hy2
     have d2 := blk_frozen HH.out.2 m
     have HY := Aside0.mk (And.intro hy hcl)
     have HX := Aside0.mk hxl
     clear hbad hmem hcr hy2 hcl hy hxl
     go_wp2_with fail
     go_roundw
     case rel =>
      refine ⟨i + 1, cs.set m (y + 1), by omega, by go_num, ⟨?_, ?_⟩, ⟨?_, ?_⟩, ⟨?_⟩⟩
      ·rw [HX.out, cntS_snoc, ← HC.out.1, Int.toNat_natCast, ← HY.out.1]
      ·intro z hz
       rw [HX.out] at hz
       rcases List.mem_append.1 hz with hz | hz
       ·exact HC.out.2 z hz
       ·rw [List.mem_singleton.1 hz]; omega
      ·exact (heap_setCell_other _ _ _ _ (by simp)).trans HH.out.1
      ·refine (blk_set HH.out.2 m _).trans ?_
       simp [nums, List.map_set]
      ·exact HB.out.setCell (by simp) _
     case measure => simp [intOf]; omega
   ·have q3 : decide ((i : Int) < (l.length : Int)) = false := decide_eq_false (by omega)
    have q3n : decide (i < l.length) = false := decide_eq_false hlt
    obtain rfl : i = l.length := by omega
    rw [List.take_length] at HC
    have hcl : cs.length = 16 := by rw [HC.out.1, cntS_length]; rfl
    have e1 : cntE l = 0 := by
     unfold cntE
     rw [if_neg h1, if_pos]
     exact List.all_eq_true.2 (fun x hx => by simpa using HC.out.2 x hx)
    have e2 : cntL l = cs.set 0 0 := by unfold cntL; rw [if_pos e1, ← HC.out.1]
    have HE : Aside0 (_ ∧ _ ∧ _) := ⟨e1, e2, hcl⟩
    have d1 : wr.cell? ⟨w.heap.size + 1, 0, none⟩ = some (.int .i64 (cs.getD 0 0)) := (blk_cell HH.out.2 0).trans (by rw [List.getD_eq_getElem?_getD]; simp [nums, List.getElem?_eq_getElem (show 0 < cs.length by omega)])
    have d2 := blk_frozen HH.out.2 0
    have H3 : Aside0 ((wr.setCell ⟨w.heap.size + 1, 0, none⟩ (.int .i64 0)).heap[w.heap.size + 1]? = some (.cells (nums .i64 (cs.set 0 0)).toArray 177 (0, 0)) ∧ (wr.setCell ⟨w.heap.size + 1, 0, none⟩ (.int .i64 0)).heap[w.heap.size]? = some (.cells (nums .i64 zeros).toArray 177 (0, 0)) ∧ Below w.heap.size w (wr.setCell ⟨w.heap.size + 1, 0, none⟩ (.int .i64 0))) :=
     ⟨(blk_set HH.out.2 0 _).trans (by simp [nums, List.map_set]), (heap_setCell_other _ _ _ _ (by simp)).trans HH.out.1, HB.out.setCell (by simp) _⟩
    have hl16 : (nums .i64 (cs.set 0 0)).length = 16 := by rw [nums_length, List.length_set]; exact hcl
    have HL := Aside0.mk hl16
    clear e1 e2 hcl HC HH hl16
    go_wp2_with (first | (refine wpList_load_row rfl 177 _ rfl (w.heap.size + 1) rfl 177 (nums .i64 (cs.set 0 0)).toArray (0, 0) _ H3.out.1 Tryz.underlying177 rfl (by rw [infoArr]; simpa using HL.out.symm) ?_) | (refine wpList_store_mid rfl 177 _ _ rfl w.heap.size 0 (nums .i64 (cs.set 0 0)).toArray rfl rfl (arr_there H3.out.2.1 _ (by rw [List.size_toArray, HL.out]; rfl)) (by rw [infoArr]; simpa using HL.out.symm) (all_oneCell_toArray (nums_one _ _)) ?_))
    repeat (rw [Exit.noGoto_ret])
    refine bodyPost_ret (results_cell_slot Tryz.results169 _ _ _ (run_loadVar_row (P := Tryz.prog) _ w.heap.size 177 177 (nums .i64 (cs.set 0 0)).toArray (0, 0) _ (setCells_blk H3.out.2.1 (by rw [HL.out]; rfl)) Tryz.underlying177 rfl (by rw [infoArr]; simpa using HL.out.symm)) rfl) rfl ⟨?_, H3.out.2.2.trans ((setCells_fr _ _ _ _).below (by rintro k rfl; exact Nat.le_refl _) H3.out.2.2.size)⟩
    rw [HE.out.1, HE.out.2.1]; rfl
end Go.Proofs.YtghoifkaikddlaaGreat.Hand
