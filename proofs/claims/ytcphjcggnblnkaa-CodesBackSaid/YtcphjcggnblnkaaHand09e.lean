/- Codes: the codes; walked by hand. -/
import Derived.Test.YtcphjcggnblnkaaHand09d
import Derived.Handy
namespace Go.Proofs.Ytcphjcggnblnkaa.Hand
open Go.RowKit Go.Proofs.YtcphjcggnblnkaaW.PrintWords Go.Proofs.YtcphjcggnblnkaaW.PrintLast Go.Proofs.YtcphjcggnblnkaaW.PrintMore Go.Proofs.Ytcphjcggnblnkaa.Num
set_option linter.unusedVariables false
set_option linter.unusedSimpArgs false
theorem infoI649 : (Try.prog.info? 3).map (fun i => (i.zero, i.size, i.bytes)) = some (some (.int .i64 0), 1, 8) := by kernel_rfl
/-- The next numbers behind lengths, and the codes of lengths. -/
def nx9 : List Int → List Int → List Int
  | nx, [] => nx
  | nx, n :: t => nx9 (if 0 < n then nx.set n.toNat (nx.getD n.toNat 0 + 1) else nx) t
def code9 : List Int → List Int → List Int
  | _, [] => []
  | nx, n :: t => (if 0 < n then nx.getD n.toNat 0 else 0) :: code9 (if 0 < n then nx.set n.toNat (nx.getD n.toNat 0 + 1) else nx) t
theorem nx9_snoc : ∀ (l nx : List Int) (n : Int), nx9 nx (l ++ [n]) = if 0 < n then (nx9 nx l).set n.toNat ((nx9 nx l).getD n.toNat 0 + 1) else nx9 nx l
  | [], _, _ => rfl
  | _ :: t, _, _ => nx9_snoc t _ _
theorem code9_snoc : ∀ (l nx : List Int) (n : Int), code9 nx (l ++ [n]) = code9 nx l ++ [if 0 < n then (nx9 nx l).getD n.toNat 0 else 0]
  | [], _, _ => rfl
  | a :: t, nx, n => by
    rw [List.cons_append, code9, code9_snoc t _ n, code9, List.cons_append]; rfl
theorem code9_length : ∀ (l nx : List Int), (code9 nx l).length = l.length
  | [], _ => rfl
  | _ :: t, _ => by rw [code9, List.length_cons, code9_length t, List.length_cons]
theorem nx9_length : ∀ (l nx : List Int), (nx9 nx l).length = nx.length
  | [], _ => rfl
  | n :: t, nx => by rw [nx9, nx9_length t]; split <;> simp
theorem nx9_range : ∀ (l nx : List Int) (B : Int), (∀ x ∈ nx, 0 ≤ x ∧ x ≤ B) → 0 ≤ B → ∀ x ∈ nx9 nx l, 0 ≤ x ∧ x ≤ B + l.length
  | [], nx, B, h, _ => by simpa [nx9] using h
  | n :: t, nx, B, h, hB => by
    intro x hx
    have h2 := nx9_range t _ (B + 1) (fun y hy => ?_) (by omega) x hx
    · rw [List.length_cons]; omega
    · have hg : 0 ≤ nx.getD n.toNat 0 ∧ nx.getD n.toNat 0 ≤ B := by
        rw [List.getD_eq_getElem?_getD]
        cases hc : nx[n.toNat]? with
        | none => simpa using hB
        | some z => exact h z (List.mem_of_getElem? hc)
      split at hy
      · rcases List.mem_or_eq_of_mem_set hy with hy | rfl
        · have := h y hy; omega
        · omega
      · have := h y hy; omega
theorem fstL_range (cs : List Int) (hr : ∀ x ∈ cs, 0 ≤ x ∧ x ≤ 320) (n : Nat) : ∀ x ∈ fstL cs n, 0 ≤ x ∧ x ≤ 20971520 := by
  intro x hx
  simp only [fstL, List.mem_map, List.mem_range] at hx
  obtain ⟨k, hk, rfl⟩ := hx
  split
  · exact fst9_small cs hr k (by omega)
  · omega
theorem may_zero {l : List Int} (h : mayF l = 0) : l.length ≤ 320 ∧ ∀ x ∈ l, 0 ≤ x ∧ x ≤ 15 := by
  have hc : cntE l = 0 := by
    rcases cntE_cases l with h0 | h0 | h0
    · exact h0
    · unfold mayF chkF at h; simp [h0] at h
    · unfold mayF chkF at h; simp [h0] at h
  unfold cntE at hc
  by_cases h1 : 320 < l.length
  · rw [if_pos h1] at hc; cases hc
  · rw [if_neg h1] at hc
    refine ⟨by omega, ?_⟩
    split at hc
    · rename_i h2
      intro x hx
      simpa using List.all_eq_true.1 h2 x hx
    · cases hc
/-- The codes of lengths. -/
def codesF (l : List Int) : List Int := if mayF l = 0 then code9 (fstL (cntL l) 16) l else []
set_option maxRecDepth 100000 in
set_option maxHeartbeats 4000000 in
theorem codes_calls (A : Option Addr) (c : Nat) (l : List Int) (w : World) (hr : ReadsInt w .i64 A l.length l) (hc : l.length ≤ c) :
    Calls Try.prog 28 #[.slice A l.length c] w fun e w' => ∃ v, e = .returned (.tuple #[v, .int .i64 (mayF l)]) ∧ Row w' w.heap.size 3 .i64 v (codesF l) ∧ Below w.heap.size w w' := by
  have HR := Aside0.mk hr
  have HK := Aside0.mk (may_calls A c l w hr hc)
  clear hr
  by_cases hm : mayF l = 0
  · obtain ⟨hl, hx⟩ := may_zero hm
    have HX := Aside0.mk hx
    have HM := Aside0.mk hm
    have HCF : Aside0 (codesF l = code9 (fstL (cntL l) 16) l) := ⟨by unfold codesF; rw [if_pos hm]⟩
    rw [hm] at HK
    clear hm hx
    have kmk := print_make (P := Try.prog) 29 3 .i64 8 Try.underlying29 infoI649 (by decide) l.length (by omega)
    go_enter Try.func28, Try.ntmps28
    go_wp2_with fail
    refine HK.out.mono ?_
    rintro e w1 ⟨rfl, hb1⟩
    have HB1 := Aside0.mk hb1
    have HR1 := Aside0.mk (HR.out.below hb1)
    clear hb1 HK
    go_wp2_with fail
    refine (counted_calls A l.length c l w1 rfl HR1.out hc).mono ?_
    rintro e w2 ⟨rfl, hb2⟩
    have HB2 := Aside0.mk (HB1.out.trans (hb2.mono HB1.out.size))
    have HR2 := Aside0.mk (HR1.out.below hb2)
    have HL := Aside0.mk (cntL_length l)
    have HRG := Aside0.mk (cntL_range l)
    have HI := Aside0.mk (show (nums .i64 (cntL l)).length = 16 by rw [nums_length]; exact cntL_length l)
    obtain ⟨cs, hcs⟩ : ∃ cs, cs = cntL l := ⟨_, rfl⟩
    obtain ⟨ce, hce⟩ : ∃ ce, ce = cntE l := ⟨_, rfl⟩
    rw [← hcs] at HL HRG HI HCF
    rw [← hcs, ← hce]
    clear hb2 HB1 HR1 hcs hce
    go_wp2_with (first | (refine wpList_store_mid rfl 80 _ _ rfl w2.heap.size 0 (nums .i64 cs).toArray rfl rfl (arr_there (cs := nums .i64 zeros) (t := 80) (heap_alloc_new w2 _) _ (by rw [List.size_toArray, HI.out]; rfl)) (by rw [infoArr]; simpa using HI.out.symm) (all_oneCell_toArray (nums_one _ _)) ?_) | (refine wpList_load_row rfl 80 _ rfl w2.heap.size rfl 80 (nums .i64 cs).toArray (0, 0) _ (setCells_blk (cs := nums .i64 zeros) (heap_alloc_new w2 _) (by rw [HI.out]; rfl)) Try.underlying80 rfl (by rw [infoArr]; simpa using HI.out.symm) ?_))
    have H3 : Aside0 (Below w.heap.size w _) := ⟨(HB2.out.alloc HB2.out.size (.cells (nums .i64 zeros).toArray 80)).trans ((setCells_fr w2.heap.size (nums .i64 cs) 0 (w2.alloc (.cells (nums .i64 zeros).toArray 80))).below (by rintro k rfl; exact HB2.out.size) (by simp; have := HB2.out.size; omega))⟩
    refine (firsts_calls cs HL.out HRG.out _).mono ?_
    rintro e w4 ⟨rfl, hb4⟩
    have HB4 := Aside0.mk (H3.out.trans (hb4.mono H3.out.size))
    have HFR := Aside0.mk (fstL_range cs HRG.out 16)
    have HFL := Aside0.mk (fstL_length cs 16)
    have HFI := Aside0.mk (show (nums .i64 (fstL cs 16)).length = 16 by rw [nums_length]; exact fstL_length cs 16)
    obtain ⟨fs, hfs⟩ : ∃ fs, fs = fstL cs 16 := ⟨_, rfl⟩
    rw [← hfs] at HFR HFL HFI HCF ⊢
    clear hb4 H3 HB2 HR2 HL HRG HI hfs
    go_wp2_with (refine wpList_store_mid rfl 80 _ _ rfl w4.heap.size 0 (nums .i64 fs).toArray rfl rfl (arr_there (cs := nums .i64 zeros) (t := 80) (heap_alloc_new w4 _) _ (by rw [List.size_toArray, HFI.out]; rfl)) (by rw [infoArr]; simpa using HFI.out.symm) (all_oneCell_toArray (nums_one _ _)) ?_)
    generalize hW : (w4.alloc (.cells #[.int .i64 0, .int .i64 0, .int .i64 0, .int .i64 0, .int .i64 0, .int .i64 0, .int .i64 0, .int .i64 0, .int .i64 0, .int .i64 0, .int .i64 0, .int .i64 0, .int .i64 0, .int .i64 0, .int .i64 0, .int .i64 0] 80)).setCells w4.heap.size 0 (nums .i64 fs) = W5
    have hA : W5.heap[w4.heap.size]? = some (.cells (nums .i64 fs).toArray 80 (0, 0)) := by
      rw [← hW]; exact setCells_blk (cs := nums .i64 zeros) (heap_alloc_new w4 _) (by rw [HFI.out]; rfl)
    have hB5 : Below w.heap.size w W5 := by
      rw [← hW]
      exact (HB4.out.alloc HB4.out.size _).trans ((setCells_fr w4.heap.size (nums .i64 fs) 0 _).below (by rintro k rfl; exact HB4.out.size) (by simp; have := HB4.out.size; omega))
    have hlt5 := blk_lt hA
    have hga : w.heap.size ≤ w4.heap.size := HB4.out.size
    obtain ⟨a, ha⟩ : ∃ a, a = w4.heap.size := ⟨_, rfl⟩
    obtain ⟨r, hr⟩ : ∃ r, r = W5.heap.size := ⟨_, rfl⟩
    have hR6 : Row (W5.alloc (.cells (madeCells #[.int .i64 0] l.length) 3)) w.heap.size 3 .i64 (.slice (some ⟨r, 0, none⟩) l.length l.length) (List.replicate l.length 0) := by
      rw [hr]; exact Row.made W5 w.heap.size 3 .i64 l.length (by omega) (by omega)
    have H6 : Aside0 (_ ∧ _ ∧ _) := ⟨blk_alloc hA (.cells (madeCells #[.int .i64 0] l.length) 3), hR6, below_alloc hB5 (.cells (madeCells #[.int .i64 0] l.length) 3)⟩
    rw [← ha] at H6 hlt5 hga ⊢
    rw [← hr] at hlt5 ⊢
    have HNE := Aside0.mk (And.intro hlt5 hga)
    clear hW hA hB5 ha hr hR6 hlt5 hga HB4
    generalize W5.alloc (.cells (madeCells #[.int .i64 0] l.length) 3) = W6 at H6 ⊢
    go_loopw [28] (fun v28 wr => ∃ (i : Nat), i ≤ l.length ∧ v28 = .int .i64 i ∧ Aside0 (wr.heap[a]? = some (.cells (nums .i64 (nx9 fs (l.take i))).toArray 80 (0, 0)) ∧ Row wr w.heap.size 3 .i64 (.slice (some ⟨r, 0, none⟩) l.length l.length) (code9 fs (l.take i) ++ List.replicate (l.length - i) 0) ∧ Below w.heap.size w wr)) (fun v28 _ => l.length - (intOf v28).toNat)
    case atStart => exact ⟨0, by omega, rfl, H6.out.1, by simpa [code9] using H6.out.2.1, H6.out.2.2⟩
    case round =>
      clear H6
      obtain ⟨i, hi, rfl, HW⟩ := hrel
      by_cases hlt : i < l.length
      · have q3 : decide ((i : Int) < (l.length : Int)) = true := decide_eq_true (by omega)
        have q3n : decide (i < l.length) = true := decide_eq_true hlt
        obtain ⟨ad, had, hcell⟩ := ReadsInt.at_ HR.out (i : Int) (by omega) (by omega)
        cases had
        rw [Int.toNat_natCast] at hcell
        have d0 := (HW.out.2.2.cell (World.block_lt_of_cell? w _ hcell)).trans hcell
        obtain ⟨x, hx⟩ : ∃ x, x = rd l (i : Int) := ⟨_, rfl⟩
        rw [← hx] at d0
        have hxl : l.take (i + 1) = l.take i ++ [x] := by
          rw [List.take_succ_eq_append_getElem hlt, hx, rd, Int.toNat_natCast, List.getD_eq_getElem?_getD, List.getElem?_eq_getElem hlt]; rfl
        have hxr : 0 ≤ x ∧ x ≤ 15 := HX.out x (List.mem_of_mem_take (i := i + 1) (by rw [hxl]; simp))
        clear hx hcell
        have HNS : Aside0 (_ ∧ _) := ⟨nx9_snoc (l.take i) fs x, code9_snoc (l.take i) fs x⟩
        rw [← hxl] at HNS
        have hnl := nx9_length (l.take i) fs
        have hnr := nx9_range (l.take i) fs 20971520 HFR.out (by omega)
        have hcl := code9_length (l.take i) fs
        rw [List.length_take] at hnr hcl
        rw [HFL.out] at hnl
        have hrep : l.length - i = (l.length - (i + 1)) + 1 := by omega
        obtain ⟨nx, hnx⟩ : ∃ nx, nx = nx9 fs (l.take i) := ⟨_, rfl⟩
        obtain ⟨cd, hcd⟩ : ∃ cd, cd = code9 fs (l.take i) := ⟨_, rfl⟩
        rw [← hnx] at HNS HW hnl hnr
        rw [← hcd] at HNS HW hcl
        obtain ⟨m, rfl⟩ := Int.eq_ofNat_of_zero_le hxr.1
        by_cases h0 : 0 < m
        · have q4 : decide (0 < (m : Int)) = true := decide_eq_true (by omega)
          have q4n : decide (0 < m) = true := decide_eq_true h0
          have hm15 : m ≤ 15 := by omega
          rw [if_pos (by omega), if_pos (by omega), Int.toNat_natCast] at HNS
          have hyr := getD_rng9 hnr m (by omega)
          have hy2 := nums_at nx m (by omega)
          obtain ⟨y, hy⟩ : ∃ y, y = nx.getD m 0 := ⟨_, rfl⟩
          rw [← hy] at hyr hy2 HNS
          have d1 : wr.cell? ⟨a, m, none⟩ = some (.int .i64 y) := (blk_cell HW.out.1 m).trans hy2
          have hne : a ≠ r := by have := HNE.out.1; omega
          obtain ⟨e1, e2⟩ := HW.out.2.1.at_ i (by rw [List.length_append, List.length_replicate, hcl]; omega)
          have hb2 : (wr.setCell ⟨r, i, none⟩ (.int .i64 y)).heap[a]? = some (.cells (nums .i64 nx).toArray 80 (0, 0)) := (heap_setCell_other _ _ _ _ hne).trans HW.out.1
          have d3 : (wr.setCell ⟨r, i, none⟩ (.int .i64 y)).cell? ⟨a, m, none⟩ = some (.int .i64 y) := (blk_cell hb2 m).trans hy2
          have d4 := blk_frozen hb2 m
          have HS2 : Aside0 (_ ∧ _ ∧ _) := ⟨hb2, HW.out.2.1.store i y, HW.out.2.2.setCell (p := ⟨r, i, none⟩) (by simp; have := HNE.out; omega) (.int .i64 y)⟩
          clear hxl hnl hnr hy2 hnx hcd hy hb2 hxr
          have HCL := Aside0.mk (And.intro hcl hrep)
          clear hcl hrep
          go_wp2_with fail
          go_roundw
          case rel =>
            refine ⟨i + 1, by omega, by go_num, ⟨?_, ?_, ?_⟩⟩
            · rw [HNS.out.1]
              refine (blk_set HS2.out.1 m _).trans ?_
              simp [nums, List.map_set]
            · have h1 := HS2.out.2.1.fr (S := (· = a)) ((Fr.refl _ _).set1 m (.int .i64 (y + 1))) (fun g hg hga => by
                rw [hga] at hg
                exact hne (by simpa [Value.ownBlock] using hg.symm))
              rw [HNS.out.2]
              have e : (cd ++ List.replicate (l.length - i) 0).set i y = cd ++ [y] ++ List.replicate (l.length - (i + 1)) 0 := by
                have hci : cd.length = i := by have := HCL.out.1; omega
                rw [HCL.out.2, List.replicate_succ, List.set_append_right _ _ (by omega), hci, Nat.sub_self]
                simp
              rw [e] at h1
              exact h1
            · exact HS2.out.2.2.setCell (p := ⟨a, m, none⟩) (by simp; have := HNE.out; omega) _
          case measure => simp [intOf]; omega
        · have q4 : decide (0 < (m : Int)) = false := decide_eq_false (by omega)
          have q4n : decide (0 < m) = false := decide_eq_false h0
          rw [if_neg (by omega), if_neg (by omega)] at HNS
          have HCL := Aside0.mk hrep
          clear hxl hnl hnr hnx hcd hxr hcl hrep
          go_wp2_with fail
          go_roundw
          case rel =>
            refine ⟨i + 1, by omega, by go_num, ⟨?_, ?_, HW.out.2.2⟩⟩
            · rw [HNS.out.1]; exact HW.out.1
            · have h1 := HW.out.2.1
              rw [HCL.out, List.replicate_succ] at h1
              rw [HNS.out.2, List.append_assoc]
              exact h1
          case measure => simp [intOf]; omega
      · have q3 : decide ((i : Int) < (l.length : Int)) = false := decide_eq_false (by omega)
        have q3n : decide (i < l.length) = false := decide_eq_false hlt
        obtain rfl : i = l.length := by omega
        go_wp2_with fail
        go_returns
        refine ⟨.slice (some ⟨r, 0, none⟩) l.length l.length, ?_, ?_, HW.out.2.2⟩
        · rw [HM.out]; rfl
        · have h1 := HW.out.2.1
          rw [List.take_length, Nat.sub_self, List.replicate_zero, List.append_nil, ← HCF.out] at h1
          exact h1
  · have HM : Aside0 (codesF l = []) := ⟨by unfold codesF; rw [if_neg hm]⟩
    obtain ⟨x, hx⟩ : ∃ x, x = mayF l := ⟨_, rfl⟩
    rw [← hx] at HK hm ⊢
    have q1 : (x != 0) = true := by simpa using hm
    clear hx hm
    go_enter Try.func28, Try.ntmps28
    go_wp2_with fail
    refine HK.out.mono ?_
    rintro e w1 ⟨rfl, hb1⟩
    go_wp2_with fail
    go_returns
    exact ⟨_, rfl, by rw [HM.out]; exact Row.nil _ _ _ _, hb1⟩
end Go.Proofs.Ytcphjcggnblnkaa.Hand
