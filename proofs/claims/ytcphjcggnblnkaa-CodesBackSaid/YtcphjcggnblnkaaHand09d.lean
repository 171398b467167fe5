/- Codes: the first numbers; walked by hand. -/
import Derived.Test.YtcphjcggnblnkaaHand09c
import Derived.Handy
namespace Go.Proofs.Ytcphjcggnblnkaa.Hand
open Go.RowKit Go.Proofs.YtcphjcggnblnkaaW.PrintWords Go.Proofs.YtcphjcggnblnkaaW.PrintLast Go.Proofs.YtcphjcggnblnkaaW.PrintMore Go.Proofs.Ytcphjcggnblnkaa.Num
set_option linter.unusedVariables false
set_option linter.unusedSimpArgs false
def fst9 (cs : List Int) : Nat → Int
  | 0 => 0
  | n + 1 => 2 * (fst9 cs n + cs.getD n 0)
def fstL (cs : List Int) (n : Nat) : List Int := (List.range 16).map (fun k => if k < n then fst9 cs k else 0)
theorem fstL_length (cs : List Int) (n : Nat) : (fstL cs n).length = 16 := by simp [fstL]
theorem fstL_getD (cs : List Int) (n k : Nat) (h : k < 16) : (fstL cs n).getD k 0 = if k < n then fst9 cs k else 0 := by
  rw [List.getD_eq_getElem?_getD]; simp [fstL, h]
theorem fstL_one (cs : List Int) : fstL cs 1 = zeros := by
  refine List.ext_getElem (by rw [fstL_length]; rfl) (fun j h1 h2 => ?_)
  simp only [fstL, List.getElem_map, List.getElem_range, zeros, List.getElem_replicate]
  split
  · rw [show j = 0 by omega]; rfl
  · rfl
theorem fstL_set (cs : List Int) (n : Nat) : (fstL cs n).set n (fst9 cs n) = fstL cs (n + 1) := by
  refine List.ext_getElem (by rw [List.length_set, fstL_length, fstL_length]) (fun j h1 h2 => ?_)
  rw [List.getElem_set]
  simp only [fstL, List.getElem_map, List.getElem_range]
  by_cases h : n = j
  · subst h; simp
  · rw [if_neg h]
    by_cases h3 : j < n
    · rw [if_pos h3, if_pos (by omega)]
    · rw [if_neg h3, if_neg (by omega)]
theorem fst9_range (cs : List Int) (hr : ∀ x ∈ cs, 0 ≤ x ∧ x ≤ 320) : ∀ n, 0 ≤ fst9 cs n ∧ fst9 cs n + 640 ≤ 640 * 2 ^ n
  | 0 => by simp [fst9]
  | n + 1 => by
    have h := fst9_range cs hr n
    have hg : 0 ≤ cs.getD n 0 ∧ cs.getD n 0 ≤ 320 := by
      by_cases hn : n < cs.length
      · exact getD_rng9 hr n hn
      · rw [List.getD_eq_getElem?_getD, List.getElem?_eq_none (by omega)]; simp
    rw [fst9, Int.pow_succ']
    omega
theorem fst9_small (cs : List Int) (hr : ∀ x ∈ cs, 0 ≤ x ∧ x ≤ 320) (n : Nat) (h : n ≤ 15) : 0 ≤ fst9 cs n ∧ fst9 cs n ≤ 20971520 := by
  have h1 := fst9_range cs hr n
  have h2 : (2 : Int) ^ n ≤ 2 ^ 15 := by
    have := Nat.pow_le_pow_right (show 0 < 2 by decide) h
    exact_mod_cast this
  omega
set_option maxRecDepth 100000 in
set_option maxHeartbeats 4000000 in
theorem firsts_calls (cs : List Int) (hl : cs.length = 16) (hr : ∀ x ∈ cs, 0 ≤ x ∧ x ≤ 320) (w : World) :
    Calls Try.prog 46 #[.agg (nums .i64 cs).toArray] w fun e w' => e = .returned (.agg (nums .i64 (fstL cs 16)).toArray) ∧ Below w.heap.size w w' := by
  have HL := Aside0.mk hl
  have HR := Aside0.mk hr
  clear hl hr
  go_enter Try.func46, Try.ntmps46
  go_wp2_with fail
  obtain ⟨g, hg⟩ : ∃ g, g = w.heap.size := ⟨_, rfl⟩
  go_loopw [4] (fun v4 wr => ∃ (n : Nat), v4 = .int .i64 n ∧ 1 ≤ n ∧ n ≤ 16 ∧ Aside0 (wr.heap[w.heap.size]? = some (.cells (nums .i64 cs).toArray 80 (0, 0)) ∧ wr.heap[w.heap.size + 1]? = some (.cells (nums .i64 zeros).toArray 80 (0, 0)) ∧ wr.heap[w.heap.size + 1 + 1]? = some (.cells (nums .i64 (fstL cs n)).toArray 80 (0, 0)) ∧ Below w.heap.size w wr)) (fun v4 _ => 16 - (intOf v4).toNat)
  case atStart => exact ⟨1, rfl, by omega, by omega, ⟨blk_alloc (blk_alloc (heap_alloc_new _ _) _) _, blk_alloc (heap_alloc2_new _ _ _) _, by rw [fstL_one]; have h := heap_alloc2_new (w.alloc (.cells (nums .i64 cs).toArray 80)) (.cells (nums .i64 zeros).toArray 80) (.cells (nums .i64 zeros).toArray 80); rw [show (w.alloc (.cells (nums .i64 cs).toArray 80)).heap.size = w.heap.size + 1 by simp] at h; exact h, below_alloc (below_alloc (below_alloc (Below.refl _ _) _) _) _⟩⟩
  case round =>
    obtain ⟨n, rfl, hn1, hn2, HW⟩ := hrel
    by_cases hlt : n ≤ 15
    · have q1 : decide ((n : Int) ≤ 15) = true := decide_eq_true (by omega)
      have q1n : decide (n ≤ 15) = true := decide_eq_true hlt
      obtain ⟨m, hm⟩ : ∃ m, n = m + 1 := ⟨n - 1, by omega⟩
      have hw : (n : Int) - 1 = (m : Int) := by omega
      have hm15 : m < 15 := by omega
      obtain ⟨x, hx⟩ : ∃ x, x = (fstL cs n).getD m 0 := ⟨_, rfl⟩
      obtain ⟨y, hy⟩ : ∃ y, y = cs.getD m 0 := ⟨_, rfl⟩
      have hcl := HL.out
      have hyr := getD_rng9 HR.out m (by omega)
      have hx2 : x = fst9 cs m := by rw [hx, fstL_getD _ _ _ (by omega), if_pos (by omega)]
      have hxr := fst9_small cs HR.out m (by omega)
      rw [← hx2] at hxr
      rw [← hy] at hyr
      have d1 : wr.cell? ⟨w.heap.size + 1 + 1, m, none⟩ = some (.int .i64 x) := by rw [hx]; exact (blk_cell HW.out.2.2.1 m).trans (nums_at _ m (by rw [fstL_length]; omega))
      have d2 : wr.cell? ⟨w.heap.size, m, none⟩ = some (.int .i64 y) := by rw [hy]; exact (blk_cell HW.out.1 m).trans (nums_at _ m (by omega))
      have d3 : wr.cell? ⟨w.heap.size + 1 + 1, n, none⟩ = some (.int .i64 ((fstL cs n).getD n 0)) := (blk_cell HW.out.2.2.1 n).trans (nums_at _ n (by rw [fstL_length]; omega))
      have d4 := blk_frozen HW.out.2.2.1 n
      have HS : Aside0 ((fstL cs n).set n (2 * (x + y)) = fstL cs (n + 1)) := ⟨by
        rw [← fstL_set]
        have e : fst9 cs n = 2 * (x + y) := by rw [hm, hx2, hy]; rfl
        rw [e]⟩
      clear hx hy hcl hx2 hm
      go_wp2_with fail
      go_region
      go_wp2
      go_roundw
      case rel =>
        refine ⟨n + 1, by go_num, by omega, by omega, ⟨?_, ?_, ?_, ?_⟩⟩
        · exact (heap_setCell_other _ _ _ _ (by simp; omega)).trans HW.out.1
        · exact (heap_setCell_other _ _ _ _ (by simp)).trans HW.out.2.1
        · refine (blk_set HW.out.2.2.1 n _).trans ?_
          rw [← HS.out]
          simp [nums, List.map_set]
        · exact (HW.out.2.2.2.setCell (by simp; omega) _).drew
      case measure => simp [intOf]; omega
    · have q1 : decide ((n : Int) ≤ 15) = false := decide_eq_false (by omega)
      have q1n : decide (n ≤ 15) = false := decide_eq_false hlt
      obtain rfl : n = 16 := by omega
      clear hlt hn1 hn2
      have HI : Aside0 ((nums .i64 (fstL cs 16)).length = 16) := ⟨by rw [nums_length, fstL_length]⟩
      obtain ⟨fs, hfs⟩ : ∃ fs, fs = fstL cs 16 := ⟨_, rfl⟩
      rw [← hfs] at HW HI
      have HF := Aside0.mk hfs
      clear hfs
      go_wp2_with (first | (refine wpList_load_row rfl 80 _ rfl (w.heap.size + 1 + 1) rfl 80 (nums .i64 fs).toArray (0, 0) _ HW.out.2.2.1 Try.underlying80 rfl (by rw [infoArr]; simpa using HI.out.symm) ?_) | (refine wpList_store_mid rfl 80 _ _ rfl (w.heap.size + 1) 0 (nums .i64 fs).toArray rfl rfl (arr_there HW.out.2.1 _ (by rw [List.size_toArray, HI.out]; rfl)) (by rw [infoArr]; simpa using HI.out.symm) (all_oneCell_toArray (nums_one _ _)) ?_))
      repeat (rw [Exit.noGoto_ret])
      exact bodyPost_ret (results_cell_row Try.results46 _ _ (w.heap.size + 1) 80 (nums .i64 fs).toArray (0, 0) _ rfl (setCells_blk HW.out.2.1 (by rw [HI.out]; rfl)) Try.underlying80 rfl (by rw [infoArr]; simpa using HI.out.symm)) rfl ⟨by rw [HF.out], HW.out.2.2.2.trans ((setCells_fr _ _ _ _).below (by rintro k rfl; omega) HW.out.2.2.2.size)⟩
end Go.Proofs.Ytcphjcggnblnkaa.Hand
