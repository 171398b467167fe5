/- The contracts of fields.whole, Need and Put at four bytes; walked by hand. Zwrap: what is demanded of a head and of a tail; walked by hand. Zwrap: Wrap and Unwrap; walked by hand. -/
import Derived.Test.YtghoifkaikddlaaGreatHand09
import Derived.Handy
import Derived.Test.YtghoifkaikddlaaGreatHand05s
import Derived.Test.YtghoifkaikddlaaGreatHand11l
import Derived.Test.YtghoifkaikddlaaGreatHand10m
import Derived.Test.YtghoifkaikddlaaGreatLem11p
namespace Go.Proofs.YtghoifkaikddlaaGreat.Hand
open Go.RowKit Go.Proofs.YtghoifkaikddlaaGreatW.PrintWords Go.Proofs.YtghoifkaikddlaaGreatW.PrintLast Go.Proofs.YtghoifkaikddlaaGreatW.PrintMore Go.Proofs.YtghoifkaikddlaaGreat.Num Go.Proofs.YtghoifkaikddlaaGreat.Bits
set_option linter.unusedVariables false
set_option linter.unusedSimpArgs false
theorem infoW8 : (Tryz.prog.info? 152).map (·.size) = some 8 := by kernel_rfl
def wholeL (n : Int) : List Int := [n / 72057594037927936 % 256, n / 281474976710656 % 256, n / 1099511627776 % 256, n / 4294967296 % 256, n / 16777216 % 256, n / 65536 % 256, n / 256 % 256, n % 256]
def wcs (n : Int) (i : Nat) : List Int := List.replicate (8 - i) 0 ++ (wholeL n).drop (8 - i)
theorem wcs_length (n : Int) (i : Nat) (h : i ≤ 8) : (wcs n i).length = 8 := by
 unfold wcs
 rw [List.length_append, List.length_replicate, List.length_drop]
 show 8 - i + (8 - (8 - i)) = 8
 omega
theorem nums8_at (cs : List Int) (m : Nat) (h : m < cs.length) : (nums .u8 cs).toArray[m]? = some (.int .u8 (cs.getD m 0)) := by
 simp [nums, List.getD_eq_getElem?_getD, List.getElem?_eq_getElem h]
set_option maxRecDepth 100000 in
set_option maxHeartbeats 4000000 in
theorem whole_calls (w : World) (n : Int) (h0 : 0 ≤ n) (h1 : n < 2 ^ 62) :
  Calls Tryz.prog 133 #[.int .i64 n] w fun e w' => e = .returned (.agg (nums .u8 (wholeL n)).toArray) ∧ Below w.heap.size w w' := by
 go_enter Tryz.func133, Tryz.ntmps133
 go_wp2_with fail
 go_loopw [5] (fun v5 wr => ∃ i : Nat, v5 = .int .i64 (i : Int) ∧ i ≤ 8 ∧ Aside0 (wr.heap[w.heap.size]? = some (.cells (nums .u8 (List.replicate 8 0)).toArray 152 (0, 0)) ∧ wr.heap[w.heap.size + 1]? = some (.cells (nums .u8 (wcs n i)).toArray 152 (0, 0)) ∧ Below w.heap.size w wr)) (fun v5 _ => 8 - (intOf v5).toNat)
 case atStart => exact ⟨0, rfl, by omega, ⟨heap_alloc2_old _ _ _, heap_alloc2_new _ _ _, below_alloc (below_alloc (Below.refl _ _) _) _⟩⟩
 case round =>
  obtain ⟨i, rfl, hi, HW⟩ := hrel
  by_cases hlt : i < 8
  ·have hc : ∀ j, j < 8 → ∃ u, wr.cell? ⟨w.heap.size + 1, j, none⟩ = some u := fun j hj => ⟨_, (blk_cell HW.out.2.1 j).trans (nums8_at (wcs n i) j (by rw [wcs_length n i hi]; exact hj))⟩
   have hf := blk_frozen HW.out.2.1
   have HF : Aside0 (_ ∧ _) := ⟨hc, hf⟩
   clear hc hf
   rcases (show i = 0 ∨ i = 1 ∨ i = 2 ∨ i = 3 ∨ i = 4 ∨ i = 5 ∨ i = 6 ∨ i = 7 by omega) with rfl | rfl | rfl | rfl | rfl | rfl | rfl | rfl
   ·obtain ⟨u, hu⟩ := HF.out.1 7 (by omega)
    have hf := HF.out.2 7
    go_wp2_with fail
    go_roundw
    case rel => exact ⟨1, rfl, by omega, ⟨(heap_setCell_other _ _ _ _ (show w.heap.size ≠ w.heap.size + 1 by omega)).trans HW.out.1, (blk_set HW.out.2.1 7 _).trans (by simp [nums, wcs, wholeL, List.replicate]), HW.out.2.2.setCell (p := ⟨w.heap.size + 1, 7, none⟩) (Nat.le_succ _) _⟩⟩
    case measure => simp [intOf]
   ·obtain ⟨u, hu⟩ := HF.out.1 6 (by omega)
    have hf := HF.out.2 6
    go_wp2_with fail
    go_roundw
    case rel => exact ⟨2, rfl, by omega, ⟨(heap_setCell_other _ _ _ _ (show w.heap.size ≠ w.heap.size + 1 by omega)).trans HW.out.1, (blk_set HW.out.2.1 6 _).trans (by simp [nums, wcs, wholeL, List.replicate]), HW.out.2.2.setCell (p := ⟨w.heap.size + 1, 6, none⟩) (Nat.le_succ _) _⟩⟩
    case measure => simp [intOf]
   ·obtain ⟨u, hu⟩ := HF.out.1 5 (by omega)
    have hf := HF.out.2 5
    go_wp2_with fail
    go_roundw
    case rel => exact ⟨3, rfl, by omega, ⟨(heap_setCell_other _ _ _ _ (show w.heap.size ≠ w.heap.size + 1 by omega)).trans HW.out.1, (blk_set HW.out.2.1 5 _).trans (by simp [nums, wcs, wholeL, List.replicate]), HW.out.2.2.setCell (p := ⟨w.heap.size + 1, 5, none⟩) (Nat.le_succ _) _⟩⟩
    case measure => simp [intOf]
   ·obtain ⟨u, hu⟩ := HF.out.1 4 (by omega)
    have hf := HF.out.2 4
    go_wp2_with fail
    go_roundw
    case rel => exact ⟨4, rfl, by omega, ⟨(heap_setCell_other _ _ _ _ (show w.heap.size ≠ w.heap.size + 1 by omega)).trans HW.out.1, (blk_set HW.out.2.1 4 _).trans (by simp [nums, wcs, wholeL, List.replicate]), HW.out.2.2.setCell (p := ⟨w.heap.size + 1, 4, none⟩) (Nat.le_succ _) _⟩⟩
    case measure => simp [intOf]
   ·obtain ⟨u, hu⟩ := HF.out.1 3 (by omega)
    have hf := HF.out.2 3
    go_wp2_with fail
    go_roundw
    case rel => exact ⟨5, rfl, by omega, ⟨(heap_setCell_other _ _ _ _ (show w.heap.size ≠ w.heap.size + 1 by omega)).trans HW.out.1, (blk_set HW.out.2.1 3 _).trans (by simp [nums, wcs, wholeL, List.replicate]), HW.out.2.2.setCell (p := ⟨w.heap.size + 1, 3, none⟩) (Nat.le_succ _) _⟩⟩
    case measure => simp [intOf]
   ·obtain ⟨u, hu⟩ := HF.out.1 2 (by omega)
    have hf := HF.out.2 2
    go_wp2_with fail
    go_roundw
    case rel => exact ⟨6, rfl, by omega, ⟨(heap_setCell_other _ _ _ _ (show w.heap.size ≠ w.heap.size + 1 by omega)).trans HW.out.1, (blk_set HW.out.2.1 2 _).trans (by simp [nums, wcs, wholeL, List.replicate]), HW.out.2.2.setCell (p := ⟨w.heap.size + 1, 2, none⟩) (Nat.le_succ _) _⟩⟩
    case measure => simp [intOf]
   ·obtain ⟨u, hu⟩ := HF.out.1 1 (by omega)
    have hf := HF.out.2 1
    go_wp2_with fail
    go_roundw
    case rel => exact ⟨7, rfl, by omega, ⟨(heap_setCell_other _ _ _ _ (show w.heap.size ≠ w.heap.size + 1 by omega)).trans HW.out.1, (blk_set HW.out.2.1 1 _).trans (by simp [nums, wcs, wholeL, List.replicate]), HW.out.2.2.setCell (p := ⟨w.heap.size + 1, 1, none⟩) (Nat.le_succ _) _⟩⟩
    case measure => simp [intOf]
   ·obtain ⟨u, hu⟩ := HF.out.1 0 (by omega)
    have hf := HF.out.2 0
    go_wp2_with fail
    go_roundw
    case rel => exact ⟨8, rfl, by omega, ⟨(heap_setCell_other _ _ _ _ (show w.heap.size ≠ w.heap.size + 1 by omega)).trans HW.out.1, (blk_set HW.out.2.1 0 _).trans (by simp [nums, wcs, wholeL, List.replicate]; omega), HW.out.2.2.setCell (p := ⟨w.heap.size + 1, 0, none⟩) (Nat.le_succ _) _⟩⟩
    case measure => simp [intOf]
  ·obtain rfl : i = 8 := by omega
   have q1 : decide (((8 : Nat) : Int) < 8) = false := by decide
   have hw8 : wcs n 8 = wholeL n := rfl
   rw [hw8] at HW
   obtain ⟨fs, hfs⟩ : ∃ fs, fs = wholeL n := ⟨_, rfl⟩
   have hl : (nums .u8 fs).length = 8 := by rw [hfs]; rfl
   rw [← hfs] at HW
   have HI := Aside0.mk hl
   have HFS := Aside0.mk hfs
   clear hl hfs
   go_wp2_with (first | (refine wpList_load_row rfl 152 _ rfl (w.heap.size + 1) rfl 152 (nums .u8 fs).toArray (0, 0) _ HW.out.2.1 Tryz.underlying152 rfl (by rw [infoW8]; simpa using HI.out.symm) ?_) | (refine wpList_store_mid rfl 152 _ _ rfl w.heap.size 0 (nums .u8 fs).toArray rfl rfl (arr_there HW.out.1 _ (by rw [List.size_toArray, HI.out]; rfl)) (by rw [infoW8]; simpa using HI.out.symm) (all_oneCell_toArray (nums_one _ _)) ?_))
   exact bodyPost_ret (results_cell_row Tryz.results133 _ _ w.heap.size 152 (nums .u8 fs).toArray (0, 0) _ rfl (setCells_blk HW.out.1 (by rw [HI.out]; rfl)) Tryz.underlying152 rfl (by rw [infoW8]; simpa using HI.out.symm)) rfl ⟨by rw [HFS.out], HW.out.2.2.trans ((setCells_fr _ _ _ _).below (by rintro k rfl; exact Nat.le_refl _) HW.out.2.2.size)⟩
theorem ffits_calls (k : Int) (hk : 0 ≤ k ∧ k ≤ 8) (w : World) : Calls Tryz.prog 131 #[.int .i64 k] w fun e w' => e = .returned (.bool true) ∧ w = w' := by
 have q1 : decide (0 ≤ k) = true := decide_eq_true hk.1
 have q2 : decide (k ≤ 8) = true := decide_eq_true hk.2
 go_enter Tryz.func131, Tryz.ntmps131
 go_wp2
 go_ret
 exact ⟨rfl, rfl⟩
theorem wholeL_top (n : Int) (h0 : 0 ≤ n) (h1 : n < 4294967296) : ∀ j, j < 4 → (wholeL n).getD j 0 = 0 := by
 intro j hj
 rcases (show j = 0 ∨ j = 1 ∨ j = 2 ∨ j = 3 by omega) with rfl | rfl | rfl | rfl <;> (simp [wholeL]; omega)
set_option maxRecDepth 100000 in
set_option maxHeartbeats 4000000 in
theorem need_calls (w : World) (g : Nat) (n : Int) (h0 : 0 ≤ n) (h1 : n < 4294967296) (hb : w.heap[g]? = some (.cells #[.int .i64 n] 3 (0, 0))) :
  Calls Tryz.prog 132 #[.slice (some ⟨g, 0, none⟩) 1 1] w fun e w' => ∃ nd : Int, e = .returned (.int .i64 nd) ∧ 0 ≤ nd ∧ nd ≤ 4 ∧ Below w.heap.size w w' := by
 have hg := blk_lt hb
 have HB := Aside0.mk hb
 clear hb
 go_enter Tryz.func132, Tryz.ntmps132
 go_wp2_with fail
 go_loopw [3, 10] (fun v3 v10 wr => ∃ (m : Int) (i : Nat), v3 = .int .i64 m ∧ v10 = .int .i64 (i : Int) ∧ i ≤ 1 ∧ 0 ≤ m ∧ m ≤ 4 ∧ (i = 0 → m = 0) ∧ Aside0 (Below w.heap.size w wr)) (fun _ v10 _ => 1 - (intOf v10).toNat)
 case atStart => exact ⟨0, 0, rfl, rfl, by omega, by omega, by omega, fun _ => rfl, ⟨Below.refl _ _⟩⟩
 case round =>
  obtain ⟨m, i, rfl, rfl, hi, hm0, hm4, hmi, HW⟩ := hrel
  by_cases hlt : i < 1
  ·obtain rfl : i = 0 := by omega
   obtain rfl : m = 0 := hmi rfl
   have c0 : wr.cell? ⟨g, 0, none⟩ = some (.int .i64 n) := (blk_cell (blk_below HB.out HW.out) 0).trans (by simp)
   have q1 : decide (n < 0) = false := decide_eq_false (by omega)
   have KW := Aside0.mk (whole_calls wr n h0 (by omega))
   have hBw := HW.out.size
   clear hmi
   go_wp2_with fail
   refine KW.out.mono ?_
   rintro e w1 ⟨rfl, hb1⟩
   have HB1 : Aside0 (Below w.heap.size w w1) := ⟨HW.out.trans (hb1.mono HW.out.size)⟩
   have hB1 := HB1.out.size
   clear KW HW hb1 c0
   obtain ⟨fs, hfs⟩ : ∃ fs, fs = wholeL n := ⟨_, rfl⟩
   have hl : (nums .u8 fs).length = 8 := by rw [hfs]; rfl
   have htop : ∀ j, j < 4 → fs.getD j 0 = 0 := by rw [hfs]; exact wholeL_top n h0 h1
   rw [← hfs]
   have HI := Aside0.mk hl
   have HT := Aside0.mk htop
   clear hl hfs htop
   go_wp2_with (refine wpList_store_mid rfl 152 _ _ rfl w1.heap.size 0 (nums .u8 fs).toArray rfl rfl (arr_there (cs := nums .u8 (List.replicate 8 0)) (t := 152) (heap_alloc_new w1 _) _ (by rw [List.size_toArray, HI.out]; rfl)) (by rw [infoW8]; simpa using HI.out.symm) (all_oneCell_toArray (nums_one _ _)) ?_)
   have hA : ((w1.alloc (.cells #[.int .u8 0, .int .u8 0, .int .u8 0, .int .u8 0, .int .u8 0, .int .u8 0, .int .u8 0, .int .u8 0] 152)).setCells w1.heap.size 0 (nums .u8 fs)).heap[w1.heap.size]? = some (.cells (nums .u8 fs).toArray 152 (0, 0)) :=
    setCells_blk (cs := nums .u8 (List.replicate 8 0)) (heap_alloc_new w1 _) (by rw [HI.out]; rfl)
   have hB2 : Below w.heap.size w ((w1.alloc (.cells #[.int .u8 0, .int .u8 0, .int .u8 0, .int .u8 0, .int .u8 0, .int .u8 0, .int .u8 0, .int .u8 0] 152)).setCells w1.heap.size 0 (nums .u8 fs)) :=
    (below_alloc HB1.out _).trans ((setCells_fr _ _ _ _).below (by rintro k rfl; exact hB1) (by simp; omega))
   generalize ((w1.alloc (.cells #[.int .u8 0, .int .u8 0, .int .u8 0, .int .u8 0, .int .u8 0, .int .u8 0, .int .u8 0, .int .u8 0] 152)).setCells w1.heap.size 0 (nums .u8 fs)) = W2 at *
   have HA : Aside0 (_ ∧ _) := ⟨hA, hB2⟩
   clear hA hB2 HB1
   go_loopw [3, 18] (fun v3 v18 wq => ∃ j : Nat, v3 = .int .i64 0 ∧ v18 = .int .i64 (j : Int) ∧ j ≤ 8 ∧ wq = W2) (fun _ v18 _ => 8 - (intOf v18).toNat)
   case atStart => exact ⟨0, rfl, rfl, by omega, rfl⟩
   case round =>
    obtain ⟨j, rfl, rfl, hj, rfl⟩ := hrel
    by_cases hj8 : j < 8
    ·have q2 : decide ((j : Int) < 8) = true := decide_eq_true (by omega)
     have q2n : decide (j < 8) = true := decide_eq_true hj8
     have d1 : wr.cell? ⟨w1.heap.size, j, none⟩ = some (.int .u8 (fs.getD j 0)) := (blk_cell HA.out.1 j).trans (nums8_at fs j (by have := HI.out; simp [nums] at this; omega))
     have hx0 : (0 : Int) ≤ (j : Int) := by omega
     have hx1 : (j : Int) < 8 := by omega
     have ht := HT.out j
     obtain ⟨y, hy⟩ : ∃ y, y = fs.getD j 0 := ⟨_, rfl⟩
     rw [← hy] at d1 ht
     clear hy
     by_cases hy0 : y = 0
     ·have q3 : (y != 0) = false := by rw [hy0]; rfl
      subst hy0
      clear ht
      go_wp2_with fail
      go_roundw
      case rel => exact ⟨j + 1, rfl, by go_num, by omega, trivial⟩
      case measure => simp [intOf]; omega
     ·have q3 : (y != 0) = true := by rw [bne_iff_ne]; exact hy0
      have hj4 : 4 ≤ j := by
       rcases Nat.lt_or_ge j 4 with h | h
       ·exact absurd (ht h) hy0
       ·exact h
      have q4 : max (0 : Int) (8 - (j : Int)) = 8 - (j : Int) := by omega
      clear ht
      go_wp2_with fail
      go_roundw
      case rel => exact ⟨8 - (j : Int), 1, by go_num, rfl, by omega, by omega, by omega, fun h => absurd h (by decide), ⟨HA.out.2⟩⟩
      case measure => simp [intOf]
    ·obtain rfl : j = 8 := by omega
     go_wp2_with fail
     go_roundw
     case rel => exact ⟨0, 1, rfl, rfl, by omega, by omega, by omega, fun h => absurd h (by decide), ⟨HA.out.2⟩⟩
     case measure => simp [intOf]
  ·obtain rfl : i = 1 := by omega
   go_wp2_with fail
   go_returns
   exact ⟨m, rfl, hm0, hm4, HW.out⟩
set_option maxRecDepth 100000 in
set_option maxHeartbeats 1000000 in
theorem fput_calls (w : World) (n : Int) (h0 : 0 ≤ n) (h1 : n < 4294967296) :
  Calls Tryz.prog 104 #[.int .i64 n, .int .i64 4] w fun e w' => e = .returned (.tuple #[.string (strOfNums ((wholeL n).drop 4)), .int .i64 0]) ∧ Below w.heap.size w w' := by
 go_enter Tryz.func104, Tryz.ntmps104
 go_wp2_with fail
 refine (ffits_calls 4 (by omega) w).mono ?_
 rintro e w1 ⟨rfl, rfl⟩
 go_wp2_with fail
 have hg := blk_new w (.cells #[.int .i64 n] 3)
 have hB := below_alloc (Below.refl w.heap.size w) (.cells #[.int .i64 n] 3)
 have HN := Aside0.mk (need_calls _ w.heap.size n h0 h1 hg)
 have HB := Aside0.mk hB
 clear hg hB
 refine HN.out.mono ?_
 rintro e w2 ⟨nd, rfl, hnd0, hnd4, hb2⟩
 have HB2 : Aside0 (Below w.heap.size w w2) := ⟨HB.out.trans (hb2.mono HB.out.size)⟩
 have q1 : decide (nd < 0) = false := decide_eq_false (by omega)
 have q2 : decide (4 < nd) = false := decide_eq_false (by omega)
 have KW := Aside0.mk (whole_calls w2 n h0 (by omega))
 clear HN HB hb2
 go_wp2_with fail
 refine KW.out.mono ?_
 rintro e w3 ⟨rfl, hb3⟩
 have HB3 : Aside0 (Below w.heap.size w w3) := ⟨HB2.out.trans (hb3.mono HB2.out.size)⟩
 have hB3 := HB3.out.size
 clear KW hb3 HB2
 obtain ⟨fs, hfs⟩ : ∃ fs, fs = wholeL n := ⟨_, rfl⟩
 have hl : (nums .u8 fs).length = 8 := by rw [hfs]; rfl
 rw [← hfs]
 have HFS := Aside0.mk hfs
 have HI := Aside0.mk hl
 clear hl hfs
 go_wp2_with (refine wpList_store_mid rfl 152 _ _ rfl w3.heap.size 0 (nums .u8 fs).toArray rfl rfl (arr_there (cs := nums .u8 (List.replicate 8 0)) (t := 152) (heap_alloc_new w3 _) _ (by rw [List.size_toArray, HI.out]; rfl)) (by rw [infoW8]; simpa using HI.out.symm) (all_oneCell_toArray (nums_one _ _)) ?_)
 have hA : ((w3.alloc (.cells #[.int .u8 0, .int .u8 0, .int .u8 0, .int .u8 0, .int .u8 0, .int .u8 0, .int .u8 0, .int .u8 0] 152)).setCells w3.heap.size 0 (nums .u8 fs)).heap[w3.heap.size]? = some (.cells (nums .u8 fs).toArray 152 (0, 0)) :=
  setCells_blk (cs := nums .u8 (List.replicate 8 0)) (heap_alloc_new w3 _) (by rw [HI.out]; rfl)
 have hB2 : Below w.heap.size w ((w3.alloc (.cells #[.int .u8 0, .int .u8 0, .int .u8 0, .int .u8 0, .int .u8 0, .int .u8 0, .int .u8 0, .int .u8 0] 152)).setCells w3.heap.size 0 (nums .u8 fs)) :=
  (below_alloc HB3.out _).trans ((setCells_fr _ _ _ _).below (by rintro k rfl; exact hB3) (by simp; omega))
 have hfl : fs.length = 8 := by have := HI.out; simpa [nums] using this
 have hc : (convert 59 9 (.slice (some ⟨w3.heap.size, 4, none⟩) 4 4)).run Tryz.prog ((w3.alloc (.cells #[.int .u8 0, .int .u8 0, .int .u8 0, .int .u8 0, .int .u8 0, .int .u8 0, .int .u8 0, .int .u8 0] 152)).setCells w3.heap.size 0 (nums .u8 fs)) = .ok (.string (strOfNums (fs.drop 4))) ((w3.alloc (.cells #[.int .u8 0, .int .u8 0, .int .u8 0, .int .u8 0, .int .u8 0, .int .u8 0, .int .u8 0, .int .u8 0] 152)).setCells w3.heap.size 0 (nums .u8 fs)) := by
  refine run_convert_bytes_arg _ 59 5 Tryz.underlying59 Tryz.underlying5 w3.heap.size 4 4 4 (fs.drop 4) (by rw [List.length_drop, hfl]) (fun j hj => ?_) 9 Tryz.underlying9
  refine (blk_cell hA (4 + j)).trans ((nums8_at fs (4 + j) (by omega)).trans ?_)
  rw [List.getD_eq_getElem?_getD, List.getD_eq_getElem?_getD, List.getElem?_drop]
 have HB4 := Aside0.mk hB2
 rw [hc]
 clear hA hB2 hc hfl
 go_wp2_with fail
 go_returns
 have hfs := HFS.out
 subst hfs
 exact ⟨rfl, HB4.out⟩
end Go.Proofs.YtghoifkaikddlaaGreat.Hand
namespace Go.Proofs.YtghoifkaikddlaaGreat.Hand
open Go.RowKit Go.Proofs.YtghoifkaikddlaaGreatW.PrintWords Go.Proofs.YtghoifkaikddlaaGreatW.PrintLast Go.Proofs.YtghoifkaikddlaaGreatW.PrintMore Go.Proofs.YtghoifkaikddlaaGreat.Num Go.Proofs.YtghoifkaikddlaaGreat.Bits
set_option linter.unusedVariables false
set_option linter.unusedSimpArgs false
theorem blk_str {w : World} {b : Nat} {s : ByteArray} (hb : w.heap[b]? = some (.cells #[.string s] 9 (0, 0))) : w.cell? ⟨b, 0, none⟩ = some (.string s) := (blk_cell hb 0).trans (by simp)
theorem h1_calls (w : World) (b : Nat) (s : ByteArray) (hb : w.heap[b]? = some (.cells #[.string s] 9 (0, 0))) :
  Calls Tryz.prog 136 #[.pointer (some ⟨b, 0, none⟩)] w fun e w' => e = .returned (.bool (decide (2 ≤ s.size))) ∧ Drawn0 w w' := by
 have c0 := blk_str hb
 go_enter Tryz.func136, Tryz.ntmps136
 go_wp2_with fail
 go_returns
 exact ⟨by rw [show decide (2 ≤ s.size) = decide ((2 : Int) ≤ (s.size : Int)) from decide_eq_decide.2 (by omega)]; rfl, Drawn0.refl _⟩
theorem h2_calls (w : World) (b : Nat) (s : ByteArray) (hb : w.heap[b]? = some (.cells #[.string s] 9 (0, 0))) (hs : 2 ≤ s.size) :
  Calls Tryz.prog 137 #[.pointer (some ⟨b, 0, none⟩)] w fun e w' => e = .returned (.bool (decide (bt s 0 % 16 = 8 ∧ bt s 0 / 16 ≤ 7))) ∧ Drawn0 w w' := by
 have c0 := blk_str hb
 have a0 : 0 < s.size := by omega
 have n0 : (s[0].toNat : Int) = bt s (0 : Int) := (bt_nat s 0 a0).symm
 have hby := bt_byte s 0
 generalize bt s 0 = y at *
 go_enter Tryz.func137, Tryz.ntmps137
 go_wp2_with fail
 ·go_returns
  rename_i h16
  exact ⟨by rw [show decide (y % 16 = 8 ∧ y / 16 ≤ 7) = decide (y / 16 ≤ 7) from decide_eq_decide.2 (by omega)]; rfl, Drawn0.refl _⟩
 ·go_returns
  rename_i h16
  exact ⟨by rw [decide_eq_false (show ¬ (y % 16 = 8 ∧ y / 16 ≤ 7) from fun h => h16 h.1)]; rfl, Drawn0.refl _⟩
theorem and32 : ∀ y : Nat, y < 256 → (bits .and .u8 (y : Int) 32 == 0) = decide ((y : Int) / 32 % 2 = 0) := by
 have h : (List.range 256).all (fun y : Nat => (bits .and .u8 (y : Int) 32 == 0) == decide ((y : Int) / 32 % 2 = 0)) = true := by decide +kernel
 intro y hy
 simpa using List.all_eq_true.1 h y (List.mem_range.2 hy)
theorem h4_calls (w : World) (b : Nat) (s : ByteArray) (hb : w.heap[b]? = some (.cells #[.string s] 9 (0, 0))) (hs : 2 ≤ s.size) :
  Calls Tryz.prog 139 #[.pointer (some ⟨b, 0, none⟩)] w fun e w' => e = .returned (.bool (decide (bt s 1 / 32 % 2 = 0))) ∧ Drawn0 w w' := by
 have c0 := blk_str hb
 have a0 : 1 < s.size := by omega
 have n0 : (s[1].toNat : Int) = bt s (1 : Int) := (bt_nat s 1 a0).symm
 have hby := bt_byte s 1
 generalize bt s 1 = y at *
 go_enter Tryz.func139, Tryz.ntmps139
 go_wp2_with fail
 go_returns
 obtain ⟨m, rfl⟩ : ∃ m : Nat, y = (m : Int) := ⟨y.toNat, by omega⟩
 rw [← and32 m (by omega)]
 exact ⟨rfl, Drawn0.refl _⟩
theorem h3_calls (w : World) (b : Nat) (s : ByteArray) (hb : w.heap[b]? = some (.cells #[.string s] 9 (0, 0))) (hs : 2 ≤ s.size) :
  Calls Tryz.prog 138 #[.pointer (some ⟨b, 0, none⟩)] w fun e w' => e = .returned (.bool (decide ((bt s 0 * 256 + bt s 1) % 31 = 0))) ∧ Drawn0 w w' := by
 have c0 := blk_str hb
 have a0 : 0 < s.size := by omega
 have a1 : 1 < s.size := by omega
 have n0 : (s[0].toNat : Int) = bt s (0 : Int) := (bt_nat s 0 a0).symm
 have n1 : (s[1].toNat : Int) = bt s (1 : Int) := (bt_nat s 1 a1).symm
 have hb0 := bt_byte s 0
 have hb1 := bt_byte s 1
 generalize bt s 0 = y at *
 generalize bt s 1 = z at *
 have q2 : bits .or .i64 (y * 256) z = y * 256 + z := bits_join .i64 62 (by decide) (fun n h0 h1 => IntWalk.i64_in _ (by omega)) 8 (y * 256) z (by omega) (by omega) (by omega) (by omega) (by omega) (by omega)
 go_enter Tryz.func138, Tryz.ntmps138
 go_wp2_with fail
 go_quiet (fail)
 go_wp2_with fail
 go_returns
 exact ⟨by rw [show decide ((y * 256 + z) % 31 = 0) = ((y * 256 + z) % 31 == 0) by rw [Bool.eq_iff_iff]; simp]; rfl, ⟨⟨_, rfl⟩⟩⟩
def headE (s : ByteArray) : Int := if s.size < 2 then 5 else if ¬ (bt s 0 % 16 = 8 ∧ bt s 0 / 16 ≤ 7) then 4 else if ¬ (bt s 0 * 256 + bt s 1) % 31 = 0 then 4 else if ¬ bt s 1 / 32 % 2 = 0 then 4 else 0
theorem dem_one (f : FuncId) (ps : Array Value) (e : Int) : (#[.func (.func f) #[] ps, .int .i64 e] : Array Value).all (·.oneCell') = true := by simp [Value.oneCell']
theorem infoDem : (Tryz.prog.info? 160).map (·.size) = some 2 := by kernel_rfl
set_option maxRecDepth 100000 in
set_option maxHeartbeats 2000000 in
theorem first_heads (w : World) (a b : Nat) (s : ByteArray) (hb : w.heap[b]? = some (.cells #[.string s] 9 (0, 0)))
  (ha : w.heap[a]? = some (.cells #[.func (.func 136) #[] #[.pointer (some ⟨b, 0, none⟩)], .int .i64 5, .func (.func 137) #[] #[.pointer (some ⟨b, 0, none⟩)], .int .i64 4, .func (.func 138) #[] #[.pointer (some ⟨b, 0, none⟩)], .int .i64 4, .func (.func 139) #[] #[.pointer (some ⟨b, 0, none⟩)], .int .i64 4] 160 (0, 0))) :
  Calls Tryz.prog 135 #[.slice (some ⟨a, 0, none⟩) 4 4] w fun e w' => e = .returned (.int .i64 (headE s)) ∧ Below w.heap.size w w' := by
 have HA : Aside0 (_ ∧ _) := ⟨ha, hb⟩
 clear ha hb
 go_enter Tryz.func135, Tryz.ntmps135
 go_wp2_with fail
 go_loopw [7] (fun v7 wr => ∃ i : Nat, v7 = .int .i64 (i : Int) ∧ i ≤ 4 ∧ Aside0 ((1 ≤ i → 2 ≤ s.size) ∧ (2 ≤ i → (bt s 0 % 16 = 8 ∧ bt s 0 / 16 ≤ 7)) ∧ (3 ≤ i → (bt s 0 * 256 + bt s 1) % 31 = 0) ∧ (4 ≤ i → bt s 1 / 32 % 2 = 0) ∧ Below w.heap.size w wr)) (fun v7 _ => 4 - (intOf v7).toNat)
 case atStart => exact ⟨0, rfl, by omega, ⟨by omega, by omega, by omega, by omega, Below.refl _ _⟩⟩
 case round =>
  obtain ⟨i, rfl, hi, HW⟩ := hrel
  by_cases hlt : i < 4
  ·have hA2 := blk_below HA.out.1 HW.out.2.2.2.2
   have hB2 := blk_below HA.out.2 HW.out.2.2.2.2
   rcases (show i = 0 ∨ i = 1 ∨ i = 2 ∨ i = 3 by omega) with rfl | rfl | rfl | rfl
   ·have c0 := blk_cell hA2 0
    have c1 := blk_cell hA2 1
    simp at c0 c1
    have hd : ((wr.alloc (.cells #[Value.nilFunc, .int .i64 0] 160)).setCells wr.heap.size 0 [.func (.func 136) #[] #[.pointer (some ⟨b, 0, none⟩)], .int .i64 5]).heap[wr.heap.size]? = some (.cells #[.func (.func 136) #[] #[.pointer (some ⟨b, 0, none⟩)], .int .i64 5] 160 (0, 0)) := setCells_blk (cs := [Value.nilFunc, .int .i64 0]) (heap_alloc_new wr _) rfl
    have hB3 : Below w.heap.size w ((wr.alloc (.cells #[Value.nilFunc, .int .i64 0] 160)).setCells wr.heap.size 0 [.func (.func 136) #[] #[.pointer (some ⟨b, 0, none⟩)], .int .i64 5]) := (below_alloc HW.out.2.2.2.2 _).trans ((setCells_fr _ _ _ _).below (by rintro j rfl; exact HW.out.2.2.2.2.size) (by have := HW.out.2.2.2.2.size; simp; omega))
    have d0 : ((wr.alloc (.cells #[Value.nilFunc, .int .i64 0] 160)).setCells wr.heap.size 0 [.func (.func 136) #[] #[.pointer (some ⟨b, 0, none⟩)], .int .i64 5]).cell? ⟨wr.heap.size, 0, none⟩ = some (.func (.func 136) #[] #[.pointer (some ⟨b, 0, none⟩)]) := (blk_cell hd 0).trans (by simp)
    have d1 : ((wr.alloc (.cells #[Value.nilFunc, .int .i64 0] 160)).setCells wr.heap.size 0 [.func (.func 136) #[] #[.pointer (some ⟨b, 0, none⟩)], .int .i64 5]).cell? ⟨wr.heap.size, 1, none⟩ = some (.int .i64 5) := (blk_cell hd 1).trans (by simp)
    have HK := h1_calls ((wr.alloc (.cells #[Value.nilFunc, .int .i64 0] 160)).setCells wr.heap.size 0 [.func (.func 136) #[] #[.pointer (some ⟨b, 0, none⟩)], .int .i64 5]) b s (blk_below HA.out.2 hB3)
    by_cases hC : 2 ≤ s.size
    ·rw [decide_eq_true hC] at HK
     have HK := Aside0.mk HK
     have HB3 := Aside0.mk hB3
     clear hd hB3 hA2 hB2
     go_wp2_with (refine wpList_store_mid rfl 160 _ _ rfl wr.heap.size 0 #[.func (.func 136) #[] #[.pointer (some ⟨b, 0, none⟩)], .int .i64 5] rfl rfl (arr_there (cs := [Value.nilFunc, .int .i64 0]) (t := 160) (heap_alloc_new wr _) _ rfl) infoDem (dem_one _ _ _) ?_)
     refine HK.out.mono ?_
     rintro e w2 ⟨rfl, ⟨⟨n2, rfl⟩⟩⟩
     have HB4 := Aside0.mk (HB3.out.trans ((show Drawn0 _ _ from ⟨⟨n2, rfl⟩⟩).below.mono HB3.out.size))
     clear HK d0 d1
     go_wp2_with fail
     go_roundw
     case rel => exact ⟨1, rfl, by omega, ⟨fun _ => hC, by omega, by omega, by omega, HB4.out⟩⟩
     case measure => simp [intOf]
    ·rw [decide_eq_false hC] at HK
     have HK := Aside0.mk HK
     have HB3 := Aside0.mk hB3
     clear hd hB3 hA2 hB2
     go_wp2_with (refine wpList_store_mid rfl 160 _ _ rfl wr.heap.size 0 #[.func (.func 136) #[] #[.pointer (some ⟨b, 0, none⟩)], .int .i64 5] rfl rfl (arr_there (cs := [Value.nilFunc, .int .i64 0]) (t := 160) (heap_alloc_new wr _) _ rfl) infoDem (dem_one _ _ _) ?_)
     refine HK.out.mono ?_
     rintro e w2 ⟨rfl, ⟨⟨n2, rfl⟩⟩⟩
     have HB4 := Aside0.mk (HB3.out.trans ((show Drawn0 _ _ from ⟨⟨n2, rfl⟩⟩).below.mono HB3.out.size))
     clear HK
     go_wp2_with fail
     go_returns
     refine ⟨?_, HB4.out⟩
     unfold headE
     rw [if_pos (by omega)]
     rfl
   ·have c0 := blk_cell hA2 2
    have c1 := blk_cell hA2 3
    simp at c0 c1
    have hd : ((wr.alloc (.cells #[Value.nilFunc, .int .i64 0] 160)).setCells wr.heap.size 0 [.func (.func 137) #[] #[.pointer (some ⟨b, 0, none⟩)], .int .i64 4]).heap[wr.heap.size]? = some (.cells #[.func (.func 137) #[] #[.pointer (some ⟨b, 0, none⟩)], .int .i64 4] 160 (0, 0)) := setCells_blk (cs := [Value.nilFunc, .int .i64 0]) (heap_alloc_new wr _) rfl
    have hB3 : Below w.heap.size w ((wr.alloc (.cells #[Value.nilFunc, .int .i64 0] 160)).setCells wr.heap.size 0 [.func (.func 137) #[] #[.pointer (some ⟨b, 0, none⟩)], .int .i64 4]) := (below_alloc HW.out.2.2.2.2 _).trans ((setCells_fr _ _ _ _).below (by rintro j rfl; exact HW.out.2.2.2.2.size) (by have := HW.out.2.2.2.2.size; simp; omega))
    have d0 : ((wr.alloc (.cells #[Value.nilFunc, .int .i64 0] 160)).setCells wr.heap.size 0 [.func (.func 137) #[] #[.pointer (some ⟨b, 0, none⟩)], .int .i64 4]).cell? ⟨wr.heap.size, 0, none⟩ = some (.func (.func 137) #[] #[.pointer (some ⟨b, 0, none⟩)]) := (blk_cell hd 0).trans (by simp)
    have d1 : ((wr.alloc (.cells #[Value.nilFunc, .int .i64 0] 160)).setCells wr.heap.size 0 [.func (.func 137) #[] #[.pointer (some ⟨b, 0, none⟩)], .int .i64 4]).cell? ⟨wr.heap.size, 1, none⟩ = some (.int .i64 4) := (blk_cell hd 1).trans (by simp)
    have HK := h2_calls ((wr.alloc (.cells #[Value.nilFunc, .int .i64 0] 160)).setCells wr.heap.size 0 [.func (.func 137) #[] #[.pointer (some ⟨b, 0, none⟩)], .int .i64 4]) b s (blk_below HA.out.2 hB3) (HW.out.1 (by omega))
    by_cases hC : bt s 0 % 16 = 8 ∧ bt s 0 / 16 ≤ 7
    ·rw [decide_eq_true hC] at HK
     have HK := Aside0.mk HK
     have HB3 := Aside0.mk hB3
     clear hd hB3 hA2 hB2
     go_wp2_with (refine wpList_store_mid rfl 160 _ _ rfl wr.heap.size 0 #[.func (.func 137) #[] #[.pointer (some ⟨b, 0, none⟩)], .int .i64 4] rfl rfl (arr_there (cs := [Value.nilFunc, .int .i64 0]) (t := 160) (heap_alloc_new wr _) _ rfl) infoDem (dem_one _ _ _) ?_)
     refine HK.out.mono ?_
     rintro e w2 ⟨rfl, ⟨⟨n2, rfl⟩⟩⟩
     have HB4 := Aside0.mk (HB3.out.trans ((show Drawn0 _ _ from ⟨⟨n2, rfl⟩⟩).below.mono HB3.out.size))
     clear HK d0 d1
     go_wp2_with fail
     go_roundw
     case rel => exact ⟨2, rfl, by omega, ⟨fun _ => HW.out.1 (by omega), fun _ => hC, by omega, by omega, HB4.out⟩⟩
     case measure => simp [intOf]
    ·rw [decide_eq_false hC] at HK
     have HK := Aside0.mk HK
     have HB3 := Aside0.mk hB3
     clear hd hB3 hA2 hB2
     go_wp2_with (refine wpList_store_mid rfl 160 _ _ rfl wr.heap.size 0 #[.func (.func 137) #[] #[.pointer (some ⟨b, 0, none⟩)], .int .i64 4] rfl rfl (arr_there (cs := [Value.nilFunc, .int .i64 0]) (t := 160) (heap_alloc_new wr _) _ rfl) infoDem (dem_one _ _ _) ?_)
     refine HK.out.mono ?_
     rintro e w2 ⟨rfl, ⟨⟨n2, rfl⟩⟩⟩
     have HB4 := Aside0.mk (HB3.out.trans ((show Drawn0 _ _ from ⟨⟨n2, rfl⟩⟩).below.mono HB3.out.size))
     clear HK
     go_wp2_with fail
     go_returns
     refine ⟨?_, HB4.out⟩
     unfold headE
     rw [if_neg (by have := HW.out.1 (by omega); omega), if_pos hC]
     rfl
   ·have c0 := blk_cell hA2 4
    have c1 := blk_cell hA2 5
    simp at c0 c1
    have hd : ((wr.alloc (.cells #[Value.nilFunc, .int .i64 0] 160)).setCells wr.heap.size 0 [.func (.func 138) #[] #[.pointer (some ⟨b, 0, none⟩)], .int .i64 4]).heap[wr.heap.size]? = some (.cells #[.func (.func 138) #[] #[.pointer (some ⟨b, 0, none⟩)], .int .i64 4] 160 (0, 0)) := setCells_blk (cs := [Value.nilFunc, .int .i64 0]) (heap_alloc_new wr _) rfl
    have hB3 : Below w.heap.size w ((wr.alloc (.cells #[Value.nilFunc, .int .i64 0] 160)).setCells wr.heap.size 0 [.func (.func 138) #[] #[.pointer (some ⟨b, 0, none⟩)], .int .i64 4]) := (below_alloc HW.out.2.2.2.2 _).trans ((setCells_fr _ _ _ _).below (by rintro j rfl; exact HW.out.2.2.2.2.size) (by have := HW.out.2.2.2.2.size; simp; omega))
    have d0 : ((wr.alloc (.cells #[Value.nilFunc, .int .i64 0] 160)).setCells wr.heap.size 0 [.func (.func 138) #[] #[.pointer (some ⟨b, 0, none⟩)], .int .i64 4]).cell? ⟨wr.heap.size, 0, none⟩ = some (.func (.func 138) #[] #[.pointer (some ⟨b, 0, none⟩)]) := (blk_cell hd 0).trans (by simp)
    have d1 : ((wr.alloc (.cells #[Value.nilFunc, .int .i64 0] 160)).setCells wr.heap.size 0 [.func (.func 138) #[] #[.pointer (some ⟨b, 0, none⟩)], .int .i64 4]).cell? ⟨wr.heap.size, 1, none⟩ = some (.int .i64 4) := (blk_cell hd 1).trans (by simp)
    have HK := h3_calls ((wr.alloc (.cells #[Value.nilFunc, .int .i64 0] 160)).setCells wr.heap.size 0 [.func (.func 138) #[] #[.pointer (some ⟨b, 0, none⟩)], .int .i64 4]) b s (blk_below HA.out.2 hB3) (HW.out.1 (by omega))
    by_cases hC : (bt s 0 * 256 + bt s 1) % 31 = 0
    ·rw [decide_eq_true hC] at HK
     have HK := Aside0.mk HK
     have HB3 := Aside0.mk hB3
     clear hd hB3 hA2 hB2
     go_wp2_with (refine wpList_store_mid rfl 160 _ _ rfl wr.heap.size 0 #[.func (.func 138) #[] #[.pointer (some ⟨b, 0, none⟩)], .int .i64 4] rfl rfl (arr_there (cs := [Value.nilFunc, .int .i64 0]) (t := 160) (heap_alloc_new wr _) _ rfl) infoDem (dem_one _ _ _) ?_)
     refine HK.out.mono ?_
     rintro e w2 ⟨rfl, ⟨⟨n2, rfl⟩⟩⟩
     have HB4 := Aside0.mk (HB3.out.trans ((show Drawn0 _ _ from ⟨⟨n2, rfl⟩⟩).below.mono HB3.out.size))
     clear HK d0 d1
     go_wp2_with fail
     go_roundw
     case rel => exact ⟨3, rfl, by omega, ⟨fun _ => HW.out.1 (by omega), fun _ => HW.out.2.1 (by omega), fun _ => hC, by omega, HB4.out⟩⟩
     case measure => simp [intOf]
    ·rw [decide_eq_false hC] at HK
     have HK := Aside0.mk HK
     have HB3 := Aside0.mk hB3
     clear hd hB3 hA2 hB2
     go_wp2_with (refine wpList_store_mid rfl 160 _ _ rfl wr.heap.size 0 #[.func (.func 138) #[] #[.pointer (some ⟨b, 0, none⟩)], .int .i64 4] rfl rfl (arr_there (cs := [Value.nilFunc, .int .i64 0]) (t := 160) (heap_alloc_new wr _) _ rfl) infoDem (dem_one _ _ _) ?_)
     refine HK.out.mono ?_
     rintro e w2 ⟨rfl, ⟨⟨n2, rfl⟩⟩⟩
     have HB4 := Aside0.mk (HB3.out.trans ((show Drawn0 _ _ from ⟨⟨n2, rfl⟩⟩).below.mono HB3.out.size))
     clear HK
     go_wp2_with fail
     go_returns
     refine ⟨?_, HB4.out⟩
     unfold headE
     rw [if_neg (by have := HW.out.1 (by omega); omega), if_neg (fun h => h (HW.out.2.1 (by omega))), if_pos hC]
     rfl
   ·have c0 := blk_cell hA2 6
    have c1 := blk_cell hA2 7
    simp at c0 c1
    have hd : ((wr.alloc (.cells #[Value.nilFunc, .int .i64 0] 160)).setCells wr.heap.size 0 [.func (.func 139) #[] #[.pointer (some ⟨b, 0, none⟩)], .int .i64 4]).heap[wr.heap.size]? = some (.cells #[.func (.func 139) #[] #[.pointer (some ⟨b, 0, none⟩)], .int .i64 4] 160 (0, 0)) := setCells_blk (cs := [Value.nilFunc, .int .i64 0]) (heap_alloc_new wr _) rfl
    have hB3 : Below w.heap.size w ((wr.alloc (.cells #[Value.nilFunc, .int .i64 0] 160)).setCells wr.heap.size 0 [.func (.func 139) #[] #[.pointer (some ⟨b, 0, none⟩)], .int .i64 4]) := (below_alloc HW.out.2.2.2.2 _).trans ((setCells_fr _ _ _ _).below (by rintro j rfl; exact HW.out.2.2.2.2.size) (by have := HW.out.2.2.2.2.size; simp; omega))
    have d0 : ((wr.alloc (.cells #[Value.nilFunc, .int .i64 0] 160)).setCells wr.heap.size 0 [.func (.func 139) #[] #[.pointer (some ⟨b, 0, none⟩)], .int .i64 4]).cell? ⟨wr.heap.size, 0, none⟩ = some (.func (.func 139) #[] #[.pointer (some ⟨b, 0, none⟩)]) := (blk_cell hd 0).trans (by simp)
    have d1 : ((wr.alloc (.cells #[Value.nilFunc, .int .i64 0] 160)).setCells wr.heap.size 0 [.func (.func 139) #[] #[.pointer (some ⟨b, 0, none⟩)], .int .i64 4]).cell? ⟨wr.heap.size, 1, none⟩ = some (.int .i64 4) := (blk_cell hd 1).trans (by simp)
    have HK := h4_calls ((wr.alloc (.cells #[Value.nilFunc, .int .i64 0] 160)).setCells wr.heap.size 0 [.func (.func 139) #[] #[.pointer (some ⟨b, 0, none⟩)], .int .i64 4]) b s (blk_below HA.out.2 hB3) (HW.out.1 (by omega))
    by_cases hC : bt s 1 / 32 % 2 = 0
    ·rw [decide_eq_true hC] at HK
     have HK := Aside0.mk HK
     have HB3 := Aside0.mk hB3
     clear hd hB3 hA2 hB2
     go_wp2_with (refine wpList_store_mid rfl 160 _ _ rfl wr.heap.size 0 #[.func (.func 139) #[] #[.pointer (some ⟨b, 0, none⟩)], .int .i64 4] rfl rfl (arr_there (cs := [Value.nilFunc, .int .i64 0]) (t := 160) (heap_alloc_new wr _) _ rfl) infoDem (dem_one _ _ _) ?_)
     refine HK.out.mono ?_
     rintro e w2 ⟨rfl, ⟨⟨n2, rfl⟩⟩⟩
     have HB4 := Aside0.mk (HB3.out.trans ((show Drawn0 _ _ from ⟨⟨n2, rfl⟩⟩).below.mono HB3.out.size))
     clear HK d0 d1
     go_wp2_with fail
     go_roundw
     case rel => exact ⟨4, rfl, by omega, ⟨fun _ => HW.out.1 (by omega), fun _ => HW.out.2.1 (by omega), fun _ => HW.out.2.2.1 (by omega), fun _ => hC, HB4.out⟩⟩
     case measure => simp [intOf]
    ·rw [decide_eq_false hC] at HK
     have HK := Aside0.mk HK
     have HB3 := Aside0.mk hB3
     clear hd hB3 hA2 hB2
     go_wp2_with (refine wpList_store_mid rfl 160 _ _ rfl wr.heap.size 0 #[.func (.func 139) #[] #[.pointer (some ⟨b, 0, none⟩)], .int .i64 4] rfl rfl (arr_there (cs := [Value.nilFunc, .int .i64 0]) (t := 160) (heap_alloc_new wr _) _ rfl) infoDem (dem_one _ _ _) ?_)
     refine HK.out.mono ?_
     rintro e w2 ⟨rfl, ⟨⟨n2, rfl⟩⟩⟩
     have HB4 := Aside0.mk (HB3.out.trans ((show Drawn0 _ _ from ⟨⟨n2, rfl⟩⟩).below.mono HB3.out.size))
     clear HK
     go_wp2_with fail
     go_returns
     refine ⟨?_, HB4.out⟩
     unfold headE
     rw [if_neg (by have := HW.out.1 (by omega); omega), if_neg (fun h => h (HW.out.2.1 (by omega))), if_neg (fun h => h (HW.out.2.2.1 (by omega))), if_pos hC]
     rfl
  ·obtain rfl : i = 4 := by omega
   go_wp2_with fail
   go_returns
   refine ⟨?_, HW.out.2.2.2.2⟩
   unfold headE
   rw [if_neg (by have := HW.out.1 (by omega); omega), if_neg (fun h => h (HW.out.2.1 (by omega))), if_neg (fun h => h (HW.out.2.2.1 (by omega))), if_neg (fun h => h (HW.out.2.2.2.1 (by omega)))]
   rfl
set_option maxRecDepth 100000 in
set_option maxHeartbeats 2000000 in
theorem heads12_calls (w : World) (s : ByteArray) :
  Calls Tryz.prog 106 #[.string s] w fun e w' => e = .returned (.int .i64 (headE s)) ∧ Below w.heap.size w w' := by
 go_enter Tryz.func106, Tryz.ntmps106
 go_wp2_with fail
 have hb0 := blk_new w (.cells #[.string s] 9)
 have hB0 := below_alloc (Below.refl w.heap.size w) (.cells #[.string s] 9)
 have hsz : (w.alloc (.cells #[.string s] 9)).heap.size = w.heap.size + 1 := by simp
 have ha0 := blk_new (w.alloc (.cells #[.string s] 9)) (.cells #[.func (.func 136) #[] #[.pointer (some ⟨w.heap.size, 0, none⟩)], .int .i64 5, .func (.func 137) #[] #[.pointer (some ⟨w.heap.size, 0, none⟩)], .int .i64 4, .func (.func 138) #[] #[.pointer (some ⟨w.heap.size, 0, none⟩)], .int .i64 4, .func (.func 139) #[] #[.pointer (some ⟨w.heap.size, 0, none⟩)], .int .i64 4] 160)
 rw [hsz] at ha0
 have HF := first_heads _ (w.heap.size + 1) w.heap.size s (blk_alloc hb0 _) ha0
 have HB := below_alloc hB0 (.cells #[.func (.func 136) #[] #[.pointer (some ⟨w.heap.size, 0, none⟩)], .int .i64 5, .func (.func 137) #[] #[.pointer (some ⟨w.heap.size, 0, none⟩)], .int .i64 4, .func (.func 138) #[] #[.pointer (some ⟨w.heap.size, 0, none⟩)], .int .i64 4, .func (.func 139) #[] #[.pointer (some ⟨w.heap.size, 0, none⟩)], .int .i64 4] 160)
 have HB := Aside0.mk HB
 refine HF.mono ?_
 rintro e w2 ⟨rfl, hb2⟩
 have HB2 := Aside0.mk (HB.out.trans (hb2.mono HB.out.size))
 clear hb2 HF ha0 hb0 hB0 hsz
 go_wp2_with fail
 go_returns
 exact ⟨rfl, HB2.out⟩
def tailF (s : ByteArray) : ByteArray := strOfNums ((wholeL (adlerOf (1, 0) s)).drop 4)
theorem adler_small (s : ByteArray) : 0 ≤ adlerOf (1, 0) s ∧ adlerOf (1, 0) s < 4294967296 := by
 have h := adlerTo_in s (p := (1, 0)) (by unfold adlerIn; omega) s.size
 unfold adlerIn at h
 unfold adlerOf
 omega
theorem sum_calls (w : World) (s : ByteArray) (hs : s.size ≤ 140737488351232) : Calls Tryz.prog 105 #[.string s] w fun e w' => e = .returned (.int .i64 (adlerOf (1, 0) s)) ∧ Below w.heap.size w w' :=
 adler_Sum.calls s _ w (by unfold adler_Sum.f; rw [if_pos hs])
theorem tail_calls (w : World) (s : ByteArray) (hs : s.size ≤ 140737488351232) :
  Calls Tryz.prog 75 #[.string s] w fun e w' => e = .returned (.string (tailF s)) ∧ Below w.heap.size w w' := by
 have HA := Aside0.mk (adler_small s)
 go_enter Tryz.func75, Tryz.ntmps75
 go_wp2_with fail
 refine (sum_calls w s hs).mono ?_
 rintro e w1 ⟨rfl, hb1⟩
 have HB1 := Aside0.mk hb1
 obtain ⟨n, hn⟩ : ∃ n, n = adlerOf (1, 0) s := ⟨_, rfl⟩
 have HN := HA.out
 rw [← hn] at HN ⊢
 have HNN := Aside0.mk hn
 have HK := Aside0.mk (fput_calls w1 n HN.1 HN.2)
 clear hb1 hn HN HA
 go_wp2_with fail
 refine HK.out.mono ?_
 rintro e w2 ⟨rfl, hb2⟩
 have HB2 := Aside0.mk (HB1.out.trans (hb2.mono HB1.out.size))
 clear hb2 HK
 go_wp2_with fail
 go_returns
 have e : tailF s = strOfNums ((wholeL n).drop 4) := by unfold tailF; rw [HNN.out]
 rw [e]
 exact ⟨rfl, HB2.out⟩
theorem t1_calls (w : World) (b : Nat) (s : ByteArray) (hb : w.heap[b]? = some (.cells #[.string s] 9 (0, 0))) :
  Calls Tryz.prog 143 #[.pointer (some ⟨b, 0, none⟩)] w fun e w' => e = .returned (.bool (decide (4 ≤ s.size))) ∧ Below w.heap.size w w' := by
 have c0 := blk_str hb
 go_enter Tryz.func143, Tryz.ntmps143
 go_wp2_with fail
 go_returns
 exact ⟨by rw [show decide (4 ≤ s.size) = decide ((4 : Int) ≤ (s.size : Int)) from decide_eq_decide.2 (by omega)]; rfl, Below.refl _ _⟩
theorem t3_calls (w : World) (b : Nat) (s : ByteArray) (hb : w.heap[b]? = some (.cells #[.string s] 9 (0, 0))) :
  Calls Tryz.prog 145 #[.pointer (some ⟨b, 0, none⟩)] w fun e w' => e = .returned (.bool (decide (s.size = 4))) ∧ Below w.heap.size w w' := by
 have c0 := blk_str hb
 go_enter Tryz.func145, Tryz.ntmps145
 go_wp2_with fail
 go_returns
 exact ⟨by rw [show decide (s.size = 4) = ((s.size : Int) == 4) by rw [Bool.eq_iff_iff]; simp; omega]; rfl, Below.refl _ _⟩
set_option maxHeartbeats 2000000 in
theorem t2_calls (w : World) (b c : Nat) (s o : ByteArray) (hb : w.heap[b]? = some (.cells #[.string s] 9 (0, 0))) (hc : w.heap[c]? = some (.cells #[.string o] 9 (0, 0))) (hs : 4 ≤ s.size) (ho : o.size ≤ 140737488351232) :
  Calls Tryz.prog 144 #[.pointer (some ⟨b, 0, none⟩), .pointer (some ⟨c, 0, none⟩)] w fun e w' => e = .returned (.bool (decide (s.extract 0 4 = tailF o))) ∧ Below w.heap.size w w' := by
 have c0 := blk_str hb
 have c1 := blk_str hc
 have HT := Aside0.mk (tail_calls w.drew o ho)
 have HX : Aside0 (∀ W, Below w.heap.size w W → W.cell? ⟨b, 0, none⟩ = some (.string s) ∧ W.cell? ⟨c, 0, none⟩ = some (.string o)) := ⟨fun W h => ⟨blk_str (blk_below hb h), blk_str (blk_below hc h)⟩⟩
 have hq : (0 : Int) ≤ 4 ∧ (4 : Int) ≤ (s.size : Int) := by omega
 clear hb hc
 go_enter Tryz.func144, Tryz.ntmps144
 go_wp2_with fail
 go_region_held3 (fun w' => w'.cell? ⟨b, 0, none⟩ = some (.string s) ∧ w'.cell? ⟨c, 0, none⟩ = some (.string o)) (first | exact ⟨c0, c1⟩ | exact ⟨e0, e1⟩) ((go_at_call 75; (with_reducible refine HT.out.mono ?_); rintro e w2 ⟨rfl, hb2⟩; have hb3 : Below w.heap.size w w2 := (show Drawn0 w w.drew from ⟨⟨1, rfl⟩⟩).below.trans hb2; have ee := HX.out w2 hb3; have e0 := ee.1; have e1 := ee.2))
 have HB3 := Aside0.mk hb3
 have he : ((s.extract 0 4).toList == (tailF o).toList) = decide (s.extract 0 4 = tailF o) := by
  rw [Bool.eq_iff_iff, beq_iff_eq, decide_eq_true_iff]
  exact toList_inj
 have HE := Aside0.mk he
 clear hb2 hb3 ee e0 e1 HT HX he
 go_wp2_with fail
 go_returns
 exact ⟨by rw [← HE.out]; rfl, HB3.out⟩
def tailE (r o : ByteArray) : Int := if r.size < 4 then 5 else if ¬ r.extract 0 4 = tailF o then 6 else if ¬ r.size = 4 then 4 else 0
set_option maxRecDepth 100000 in
set_option maxHeartbeats 2000000 in
theorem first_tails (w : World) (a b c : Nat) (s o : ByteArray) (hb : w.heap[b]? = some (.cells #[.string s] 9 (0, 0))) (hc : w.heap[c]? = some (.cells #[.string o] 9 (0, 0))) (ho : o.size ≤ 140737488351232)
  (ha : w.heap[a]? = some (.cells #[.func (.func 143) #[] #[.pointer (some ⟨b, 0, none⟩)], .int .i64 5, .func (.func 144) #[] #[.pointer (some ⟨b, 0, none⟩), .pointer (some ⟨c, 0, none⟩)], .int .i64 6, .func (.func 145) #[] #[.pointer (some ⟨b, 0, none⟩)], .int .i64 4] 160 (0, 0))) :
  Calls Tryz.prog 135 #[.slice (some ⟨a, 0, none⟩) 3 3] w fun e w' => e = .returned (.int .i64 (tailE s o)) ∧ Below w.heap.size w w' := by
 have HA : Aside0 (_ ∧ _ ∧ _) := ⟨ha, hb, hc⟩
 clear ha hb hc
 go_enter Tryz.func135, Tryz.ntmps135
 go_wp2_with fail
 go_loopw [7] (fun v7 wr => ∃ i : Nat, v7 = .int .i64 (i : Int) ∧ i ≤ 3 ∧ Aside0 ((1 ≤ i → 4 ≤ s.size) ∧ (2 ≤ i → s.extract 0 4 = tailF o) ∧ (3 ≤ i → s.size = 4) ∧ Below w.heap.size w wr)) (fun v7 _ => 3 - (intOf v7).toNat)
 case atStart => exact ⟨0, rfl, by omega, ⟨by omega, by omega, by omega, Below.refl _ _⟩⟩
 case round =>
  obtain ⟨i, rfl, hi, HW⟩ := hrel
  by_cases hlt : i < 3
  ·have hA2 := blk_below HA.out.1 HW.out.2.2.2
   rcases (show i = 0 ∨ i = 1 ∨ i = 2 by omega) with rfl | rfl | rfl
   ·have c0 := blk_cell hA2 0
    have c1 := blk_cell hA2 1
    simp at c0 c1
    have hd : ((wr.alloc (.cells #[Value.nilFunc, .int .i64 0] 160)).setCells wr.heap.size 0 [.func (.func 143) #[] #[.pointer (some ⟨b, 0, none⟩)], .int .i64 5]).heap[wr.heap.size]? = some (.cells #[.func (.func 143) #[] #[.pointer (some ⟨b, 0, none⟩)], .int .i64 5] 160 (0, 0)) := setCells_blk (cs := [Value.nilFunc, .int .i64 0]) (heap_alloc_new wr _) rfl
    have hB3 : Below w.heap.size w ((wr.alloc (.cells #[Value.nilFunc, .int .i64 0] 160)).setCells wr.heap.size 0 [.func (.func 143) #[] #[.pointer (some ⟨b, 0, none⟩)], .int .i64 5]) := (below_alloc HW.out.2.2.2 _).trans ((setCells_fr _ _ _ _).below (by rintro j rfl; exact HW.out.2.2.2.size) (by have := HW.out.2.2.2.size; simp; omega))
    have d0 : ((wr.alloc (.cells #[Value.nilFunc, .int .i64 0] 160)).setCells wr.heap.size 0 [.func (.func 143) #[] #[.pointer (some ⟨b, 0, none⟩)], .int .i64 5]).cell? ⟨wr.heap.size, 0, none⟩ = some (.func (.func 143) #[] #[.pointer (some ⟨b, 0, none⟩)]) := (blk_cell hd 0).trans (by simp)
    have d1 : ((wr.alloc (.cells #[Value.nilFunc, .int .i64 0] 160)).setCells wr.heap.size 0 [.func (.func 143) #[] #[.pointer (some ⟨b, 0, none⟩)], .int .i64 5]).cell? ⟨wr.heap.size, 1, none⟩ = some (.int .i64 5) := (blk_cell hd 1).trans (by simp)
    have HK := t1_calls ((wr.alloc (.cells #[Value.nilFunc, .int .i64 0] 160)).setCells wr.heap.size 0 [.func (.func 143) #[] #[.pointer (some ⟨b, 0, none⟩)], .int .i64 5]) b s (blk_below HA.out.2.1 hB3)
    have HX : Aside0 (∀ W2, Below ((wr.alloc (.cells #[Value.nilFunc, .int .i64 0] 160)).setCells wr.heap.size 0 [.func (.func 143) #[] #[.pointer (some ⟨b, 0, none⟩)], .int .i64 5]).heap.size ((wr.alloc (.cells #[Value.nilFunc, .int .i64 0] 160)).setCells wr.heap.size 0 [.func (.func 143) #[] #[.pointer (some ⟨b, 0, none⟩)], .int .i64 5]) W2 → W2.cell? ⟨wr.heap.size, 1, none⟩ = some (.int .i64 5)) := ⟨fun W2 h => (blk_cell (blk_below hd h) 1).trans (by simp)⟩
    by_cases hC : 4 ≤ s.size
    ·rw [decide_eq_true hC] at HK
     have HK := Aside0.mk HK
     have HB3 := Aside0.mk hB3
     clear hd hB3 hA2
     go_wp2_with (refine wpList_store_mid rfl 160 _ _ rfl wr.heap.size 0 #[.func (.func 143) #[] #[.pointer (some ⟨b, 0, none⟩)], .int .i64 5] rfl rfl (arr_there (cs := [Value.nilFunc, .int .i64 0]) (t := 160) (heap_alloc_new wr _) _ rfl) infoDem (dem_one _ _ _) ?_)
     refine HK.out.mono ?_
     rintro e w2 ⟨rfl, hb2⟩
     have HB4 := Aside0.mk (HB3.out.trans (hb2.mono HB3.out.size))
     clear HK d0 d1 HX hb2
     go_wp2_with fail
     go_roundw
     case rel => exact ⟨1, rfl, by omega, ⟨fun _ => hC, by omega, by omega, HB4.out⟩⟩
     case measure => simp [intOf]
    ·rw [decide_eq_false hC] at HK
     have HK := Aside0.mk HK
     have HB3 := Aside0.mk hB3
     clear hd hB3 hA2
     go_wp2_with (refine wpList_store_mid rfl 160 _ _ rfl wr.heap.size 0 #[.func (.func 143) #[] #[.pointer (some ⟨b, 0, none⟩)], .int .i64 5] rfl rfl (arr_there (cs := [Value.nilFunc, .int .i64 0]) (t := 160) (heap_alloc_new wr _) _ rfl) infoDem (dem_one _ _ _) ?_)
     refine HK.out.mono ?_
     rintro e w2 ⟨rfl, hb2⟩
     have HB4 := Aside0.mk (HB3.out.trans (hb2.mono HB3.out.size))
     have d2 := HX.out w2 hb2
     clear HK d0 d1 HX hb2
     go_wp2_with fail
     go_returns
     refine ⟨?_, HB4.out⟩
     unfold tailE
     rw [if_pos (by omega)]
     rfl
   ·have c0 := blk_cell hA2 2
    have c1 := blk_cell hA2 3
    simp at c0 c1
    have hd : ((wr.alloc (.cells #[Value.nilFunc, .int .i64 0] 160)).setCells wr.heap.size 0 [.func (.func 144) #[] #[.pointer (some ⟨b, 0, none⟩), .pointer (some ⟨c, 0, none⟩)], .int .i64 6]).heap[wr.heap.size]? = some (.cells #[.func (.func 144) #[] #[.pointer (some ⟨b, 0, none⟩), .pointer (some ⟨c, 0, none⟩)], .int .i64 6] 160 (0, 0)) := setCells_blk (cs := [Value.nilFunc, .int .i64 0]) (heap_alloc_new wr _) rfl
    have hB3 : Below w.heap.size w ((wr.alloc (.cells #[Value.nilFunc, .int .i64 0] 160)).setCells wr.heap.size 0 [.func (.func 144) #[] #[.pointer (some ⟨b, 0, none⟩), .pointer (some ⟨c, 0, none⟩)], .int .i64 6]) := (below_alloc HW.out.2.2.2 _).trans ((setCells_fr _ _ _ _).below (by rintro j rfl; exact HW.out.2.2.2.size) (by have := HW.out.2.2.2.size; simp; omega))
    have d0 : ((wr.alloc (.cells #[Value.nilFunc, .int .i64 0] 160)).setCells wr.heap.size 0 [.func (.func 144) #[] #[.pointer (some ⟨b, 0, none⟩), .pointer (some ⟨c, 0, none⟩)], .int .i64 6]).cell? ⟨wr.heap.size, 0, none⟩ = some (.func (.func 144) #[] #[.pointer (some ⟨b, 0, none⟩), .pointer (some ⟨c, 0, none⟩)]) := (blk_cell hd 0).trans (by simp)
    have d1 : ((wr.alloc (.cells #[Value.nilFunc, .int .i64 0] 160)).setCells wr.heap.size 0 [.func (.func 144) #[] #[.pointer (some ⟨b, 0, none⟩), .pointer (some ⟨c, 0, none⟩)], .int .i64 6]).cell? ⟨wr.heap.size, 1, none⟩ = some (.int .i64 6) := (blk_cell hd 1).trans (by simp)
    have HK := t2_calls ((wr.alloc (.cells #[Value.nilFunc, .int .i64 0] 160)).setCells wr.heap.size 0 [.func (.func 144) #[] #[.pointer (some ⟨b, 0, none⟩), .pointer (some ⟨c, 0, none⟩)], .int .i64 6]) b c s o (blk_below HA.out.2.1 hB3) (blk_below HA.out.2.2 hB3) (HW.out.1 (by omega)) ho
    have HX : Aside0 (∀ W2, Below ((wr.alloc (.cells #[Value.nilFunc, .int .i64 0] 160)).setCells wr.heap.size 0 [.func (.func 144) #[] #[.pointer (some ⟨b, 0, none⟩), .pointer (some ⟨c, 0, none⟩)], .int .i64 6]).heap.size ((wr.alloc (.cells #[Value.nilFunc, .int .i64 0] 160)).setCells wr.heap.size 0 [.func (.func 144) #[] #[.pointer (some ⟨b, 0, none⟩), .pointer (some ⟨c, 0, none⟩)], .int .i64 6]) W2 → W2.cell? ⟨wr.heap.size, 1, none⟩ = some (.int .i64 6)) := ⟨fun W2 h => (blk_cell (blk_below hd h) 1).trans (by simp)⟩
    by_cases hC : s.extract 0 4 = tailF o
    ·rw [decide_eq_true hC] at HK
     have HK := Aside0.mk HK
     have HB3 := Aside0.mk hB3
     clear hd hB3 hA2
     go_wp2_with (refine wpList_store_mid rfl 160 _ _ rfl wr.heap.size 0 #[.func (.func 144) #[] #[.pointer (some ⟨b, 0, none⟩), .pointer (some ⟨c, 0, none⟩)], .int .i64 6] rfl rfl (arr_there (cs := [Value.nilFunc, .int .i64 0]) (t := 160) (heap_alloc_new wr _) _ rfl) infoDem (dem_one _ _ _) ?_)
     refine HK.out.mono ?_
     rintro e w2 ⟨rfl, hb2⟩
     have HB4 := Aside0.mk (HB3.out.trans (hb2.mono HB3.out.size))
     clear HK d0 d1 HX hb2
     go_wp2_with fail
     go_roundw
     case rel => exact ⟨2, rfl, by omega, ⟨fun _ => HW.out.1 (by omega), fun _ => hC, by omega, HB4.out⟩⟩
     case measure => simp [intOf]
    ·rw [decide_eq_false hC] at HK
     have HK := Aside0.mk HK
     have HB3 := Aside0.mk hB3
     clear hd hB3 hA2
     go_wp2_with (refine wpList_store_mid rfl 160 _ _ rfl wr.heap.size 0 #[.func (.func 144) #[] #[.pointer (some ⟨b, 0, none⟩), .pointer (some ⟨c, 0, none⟩)], .int .i64 6] rfl rfl (arr_there (cs := [Value.nilFunc, .int .i64 0]) (t := 160) (heap_alloc_new wr _) _ rfl) infoDem (dem_one _ _ _) ?_)
     refine HK.out.mono ?_
     rintro e w2 ⟨rfl, hb2⟩
     have HB4 := Aside0.mk (HB3.out.trans (hb2.mono HB3.out.size))
     have d2 := HX.out w2 hb2
     clear HK d0 d1 HX hb2
     go_wp2_with fail
     go_returns
     refine ⟨?_, HB4.out⟩
     unfold tailE
     rw [if_neg (by have := HW.out.1 (by omega); omega), if_pos hC]
     rfl
   ·have c0 := blk_cell hA2 4
    have c1 := blk_cell hA2 5
    simp at c0 c1
    have hd : ((wr.alloc (.cells #[Value.nilFunc, .int .i64 0] 160)).setCells wr.heap.size 0 [.func (.func 145) #[] #[.pointer (some ⟨b, 0, none⟩)], .int .i64 4]).heap[wr.heap.size]? = some (.cells #[.func (.func 145) #[] #[.pointer (some ⟨b, 0, none⟩)], .int .i64 4] 160 (0, 0)) := setCells_blk (cs := [Value.nilFunc, .int .i64 0]) (heap_alloc_new wr _) rfl
    have hB3 : Below w.heap.size w ((wr.alloc (.cells #[Value.nilFunc, .int .i64 0] 160)).setCells wr.heap.size 0 [.func (.func 145) #[] #[.pointer (some ⟨b, 0, none⟩)], .int .i64 4]) := (below_alloc HW.out.2.2.2 _).trans ((setCells_fr _ _ _ _).below (by rintro j rfl; exact HW.out.2.2.2.size) (by have := HW.out.2.2.2.size; simp; omega))
    have d0 : ((wr.alloc (.cells #[Value.nilFunc, .int .i64 0] 160)).setCells wr.heap.size 0 [.func (.func 145) #[] #[.pointer (some ⟨b, 0, none⟩)], .int .i64 4]).cell? ⟨wr.heap.size, 0, none⟩ = some (.func (.func 145) #[] #[.pointer (some ⟨b, 0, none⟩)]) := (blk_cell hd 0).trans (by simp)
    have d1 : ((wr.alloc (.cells #[Value.nilFunc, .int .i64 0] 160)).setCells wr.heap.size 0 [.func (.func 145) #[] #[.pointer (some ⟨b, 0, none⟩)], .int .i64 4]).cell? ⟨wr.heap.size, 1, none⟩ = some (.int .i64 4) := (blk_cell hd 1).trans (by simp)
    have HK := t3_calls ((wr.alloc (.cells #[Value.nilFunc, .int .i64 0] 160)).setCells wr.heap.size 0 [.func (.func 145) #[] #[.pointer (some ⟨b, 0, none⟩)], .int .i64 4]) b s (blk_below HA.out.2.1 hB3)
    have HX : Aside0 (∀ W2, Below ((wr.alloc (.cells #[Value.nilFunc, .int .i64 0] 160)).setCells wr.heap.size 0 [.func (.func 145) #[] #[.pointer (some ⟨b, 0, none⟩)], .int .i64 4]).heap.size ((wr.alloc (.cells #[Value.nilFunc, .int .i64 0] 160)).setCells wr.heap.size 0 [.func (.func 145) #[] #[.pointer (some ⟨b, 0, none⟩)], .int .i64 4]) W2 → W2.cell? ⟨wr.heap.size, 1, none⟩ = some (.int .i64 4)) := ⟨fun W2 h => (blk_cell (blk_below hd h) 1).trans (by simp)⟩
    by_cases hC : s.size = 4
    ·rw [decide_eq_true hC] at HK
     have HK := Aside0.mk HK
     have HB3 := Aside0.mk hB3
     clear hd hB3 hA2
     go_wp2_with (refine wpList_store_mid rfl 160 _ _ rfl wr.heap.size 0 #[.func (.func 145) #[] #[.pointer (some ⟨b, 0, none⟩)], .int .i64 4] rfl rfl (arr_there (cs := [Value.nilFunc, .int .i64 0]) (t := 160) (heap_alloc_new wr _) _ rfl) infoDem (dem_one _ _ _) ?_)
     refine HK.out.mono ?_
     rintro e w2 ⟨rfl, hb2⟩
     have HB4 := Aside0.mk (HB3.out.trans (hb2.mono HB3.out.size))
     clear HK d0 d1 HX hb2
     go_wp2_with fail
     go_roundw
     case rel => exact ⟨3, rfl, by omega, ⟨fun _ => HW.out.1 (by omega), fun _ => HW.out.2.1 (by omega), fun _ => hC, HB4.out⟩⟩
     case measure => simp [intOf]
    ·rw [decide_eq_false hC] at HK
     have HK := Aside0.mk HK
     have HB3 := Aside0.mk hB3
     clear hd hB3 hA2
     go_wp2_with (refine wpList_store_mid rfl 160 _ _ rfl wr.heap.size 0 #[.func (.func 145) #[] #[.pointer (some ⟨b, 0, none⟩)], .int .i64 4] rfl rfl (arr_there (cs := [Value.nilFunc, .int .i64 0]) (t := 160) (heap_alloc_new wr _) _ rfl) infoDem (dem_one _ _ _) ?_)
     refine HK.out.mono ?_
     rintro e w2 ⟨rfl, hb2⟩
     have HB4 := Aside0.mk (HB3.out.trans (hb2.mono HB3.out.size))
     have d2 := HX.out w2 hb2
     clear HK d0 d1 HX hb2
     go_wp2_with fail
     go_returns
     refine ⟨?_, HB4.out⟩
     unfold tailE
     rw [if_neg (by have := HW.out.1 (by omega); omega), if_neg (fun h => h (HW.out.2.1 (by omega))), if_pos hC]
     rfl
  ·obtain rfl : i = 3 := by omega
   go_wp2_with fail
   go_returns
   refine ⟨?_, HW.out.2.2.2⟩
   unfold tailE
   rw [if_neg (by have := HW.out.1 (by omega); omega), if_neg (fun h => h (HW.out.2.1 (by omega))), if_neg (fun h => h (HW.out.2.2.1 (by omega)))]
   rfl
set_option maxRecDepth 100000 in
set_option maxHeartbeats 2000000 in
theorem tails12_calls (w : World) (s o : ByteArray) (ho : o.size ≤ 140737488351232) :
  Calls Tryz.prog 108 #[.string s, .string o] w fun e w' => e = .returned (.int .i64 (tailE s o)) ∧ Below w.heap.size w w' := by
 go_enter Tryz.func108, Tryz.ntmps108
 go_wp2_with fail
 have hb0 := blk_new w (.cells #[.string s] 9)
 have hB0 := below_alloc (Below.refl w.heap.size w) (.cells #[.string s] 9)
 have hsz : (w.alloc (.cells #[.string s] 9)).heap.size = w.heap.size + 1 := by simp
 have hc0 := blk_new (w.alloc (.cells #[.string s] 9)) (.cells #[.string o] 9)
 rw [hsz] at hc0
 have hB1 := below_alloc hB0 (.cells #[.string o] 9)
 have hsz2 : ((w.alloc (.cells #[.string s] 9)).alloc (.cells #[.string o] 9)).heap.size = w.heap.size + 1 + 1 := by simp
 have ha0 := blk_new ((w.alloc (.cells #[.string s] 9)).alloc (.cells #[.string o] 9)) (.cells #[.func (.func 143) #[] #[.pointer (some ⟨w.heap.size, 0, none⟩)], .int .i64 5, .func (.func 144) #[] #[.pointer (some ⟨w.heap.size, 0, none⟩), .pointer (some ⟨w.heap.size + 1, 0, none⟩)], .int .i64 6, .func (.func 145) #[] #[.pointer (some ⟨w.heap.size, 0, none⟩)], .int .i64 4] 160)
 rw [hsz2] at ha0
 have HF := first_tails _ (w.heap.size + 1 + 1) w.heap.size (w.heap.size + 1) s o (blk_alloc (blk_alloc hb0 _) _) (blk_alloc hc0 _) ho ha0
 have HB := Aside0.mk (below_alloc hB1 (.cells #[.func (.func 143) #[] #[.pointer (some ⟨w.heap.size, 0, none⟩)], .int .i64 5, .func (.func 144) #[] #[.pointer (some ⟨w.heap.size, 0, none⟩), .pointer (some ⟨w.heap.size + 1, 0, none⟩)], .int .i64 6, .func (.func 145) #[] #[.pointer (some ⟨w.heap.size, 0, none⟩)], .int .i64 4] 160))
 refine HF.mono ?_
 rintro e w2 ⟨rfl, hb2⟩
 have HB2 := Aside0.mk (HB.out.trans (hb2.mono HB.out.size))
 clear hb2 HF ha0 hb0 hB0 hsz hsz2 hc0 hB1
 go_wp2_with fail
 go_returns
 exact ⟨rfl, HB2.out⟩
end Go.Proofs.YtghoifkaikddlaaGreat.Hand
namespace Go.Proofs.YtghoifkaikddlaaGreat.Hand
open Go.RowKit Go.Proofs.YtghoifkaikddlaaGreatW.PrintWords Go.Proofs.YtghoifkaikddlaaGreatW.PrintLast Go.Proofs.YtghoifkaikddlaaGreatW.PrintMore Go.Proofs.YtghoifkaikddlaaGreat.Num Go.Proofs.YtghoifkaikddlaaGreat.Bits
set_option linter.unusedVariables false
set_option linter.unusedSimpArgs false
set_option maxRecDepth 100000
theorem tailF_size (s : ByteArray) : (tailF s).size = 4 := by
 unfold tailF
 rw [strOfNums_size]
 rfl
def zhead : ByteArray := ⟨#[120, 1]⟩
def wrapF (s : ByteArray) : ByteArray := (zhead ++ bestF s) ++ tailF s
theorem bestF_le (s : ByteArray) : (bestF s).size ≤ (storeF s).size := by
 unfold bestF
 split <;> omega
theorem bestF_size (s : ByteArray) (hs : s.size ≤ 100000) : (bestF s).size ≤ 200000 := by
 have h1 := bestF_le s
 rw [storeF_size] at h1
 unfold blocksN at h1
 omega
def unwrapF (s : ByteArray) (m : Int) : ByteArray × Int := if m < 0 then (⟨#[]⟩, 2) else if headE s = 0 then
  (if (inflF (s.extract 2 s.size) m).2.2 = 0 then
   (if tailE ((s.extract 2 s.size).extract (inflF (s.extract 2 s.size) m).2.1.toNat (s.extract 2 s.size).size) (inflF (s.extract 2 s.size) m).1 = 0 then ((inflF (s.extract 2 s.size) m).1, 0)
    else (⟨#[]⟩, tailE ((s.extract 2 s.size).extract (inflF (s.extract 2 s.size) m).2.1.toNat (s.extract 2 s.size).size) (inflF (s.extract 2 s.size) m).1))
   else (⟨#[]⟩, (inflF (s.extract 2 s.size) m).2.2))
  else (⟨#[]⟩, headE s)
theorem headE_size {s : ByteArray} (h : headE s = 0) : 2 ≤ s.size := by
 unfold headE at h
 split at h
 ·cases h
 ·omega
set_option maxHeartbeats 1000000 in
theorem best_calls (w : World) (s : ByteArray) (hs : s.size ≤ 100000) :
  Calls Tryz.prog 74 #[.string s] w fun e w' => e = .returned (.string (bestF s)) ∧ Below w.heap.size w w' := by
 have K1 := Aside0.mk (sfixed_calls w s hs)
 obtain ⟨a, ha⟩ : ∃ a, a = fixF s := ⟨_, rfl⟩
 obtain ⟨b, hb⟩ : ∃ b, b = storeF s := ⟨_, rfl⟩
 have HR : Aside0 (bestF s = if a.size < b.size then a else b) := ⟨by rw [ha, hb]; rfl⟩
 rw [← ha] at K1
 have K2 := Aside0.mk (fun W => sstored_calls W s hs)
 rw [← hb] at K2
 clear ha hb
 go_enter Tryz.func74, Tryz.ntmps74
 go_wp2_with fail
 refine K1.out.mono ?_
 rintro e w1 ⟨rfl, hb1⟩
 have HB1 := Aside0.mk hb1
 clear hb1 K1
 go_wp2_with fail
 refine (K2.out w1).mono ?_
 rintro e w2 ⟨rfl, hb2⟩
 have HB2 := Aside0.mk (HB1.out.trans (hb2.mono HB1.out.size))
 clear hb2 K2 HB1
 by_cases h : a.size < b.size
 ·have q1 : decide ((a.size : Int) < (b.size : Int)) = true := decide_eq_true (by omega)
  have q1n : decide (a.size < b.size) = true := decide_eq_true h
  go_wp2_with fail
  go_returns
  rw [HR.out, if_pos h]
  exact ⟨rfl, HB2.out⟩
 ·have q1 : decide ((a.size : Int) < (b.size : Int)) = false := decide_eq_false (by omega)
  have q1n : decide (a.size < b.size) = false := decide_eq_false h
  go_wp2_with fail
  go_returns
  rw [HR.out, if_neg h]
  exact ⟨rfl, HB2.out⟩
set_option maxHeartbeats 1000000 in
theorem wrap_calls (w : World) (s : ByteArray) (hs : s.size ≤ 100000) :
  Calls Tryz.prog 53 #[.string s] w fun e w' => e = .returned (.string (wrapF s)) ∧ Below w.heap.size w w' := by
 have K1 := Aside0.mk (best_calls w s hs)
 have K2 := Aside0.mk (fun W => tail_calls W s (by omega))
 have hb := bestF_size s hs
 have ht := tailF_size s
 obtain ⟨a, ha⟩ : ∃ a, a = bestF s := ⟨_, rfl⟩
 obtain ⟨b, hb'⟩ : ∃ b, b = tailF s := ⟨_, rfl⟩
 have HR : Aside0 (wrapF s = ((⟨#[120, 1]⟩ : ByteArray) ++ a) ++ b) := ⟨by rw [ha, hb']; rfl⟩
 rw [← ha] at K1 hb
 rw [← hb'] at K2 ht
 have hsz : ((⟨#[120, 1]⟩ : ByteArray) ++ a).size = 2 + a.size := by rw [ByteArray.size_append]; rfl
 have HT := Aside0.mk ht
 clear ha hb' ht
 go_enter Tryz.func53, Tryz.ntmps53
 go_wp2_with fail
 refine K1.out.mono ?_
 rintro e w1 ⟨rfl, hb1⟩
 have HB1 := Aside0.mk hb1
 clear hb1 K1
 go_wp2_with fail
 refine (K2.out w1).mono ?_
 rintro e w2 ⟨rfl, hb2⟩
 have HB2 := Aside0.mk (HB1.out.trans (hb2.mono HB1.out.size))
 clear hb2 K2
 have hbz := HT.out
 have c5b2 : (9223372036854775807 < ((⟨#[120, 1]⟩ : ByteArray) ++ a).size + b.size) = False := eq_false (by omega)
 go_wp2_with fail
 go_returns
 rw [HR.out]
 exact ⟨rfl, HB2.out⟩
set_option maxHeartbeats 1000000 in
theorem unwrap_calls (w : World) (s : ByteArray) (m : Int) (hs : s.size ≤ 1000000) (hm : m ≤ 10000000) :
  Calls Tryz.prog 76 #[.string s, .int .i64 m] w fun e w' => e = .returned (.tuple #[.string (unwrapF s m).1, .int .i64 (unwrapF s m).2]) ∧ Below w.heap.size w w' := by
 by_cases h0 : m < 0
 ·have q0 : decide (m < 0) = true := decide_eq_true h0
  have e0 : unwrapF s m = (⟨#[]⟩, 2) := by unfold unwrapF; rw [if_pos h0]
  rw [e0]
  go_enter Tryz.func76, Tryz.ntmps76
  go_wp2_with fail
  go_returns
  exact ⟨rfl, Below.refl _ _⟩
 ·have q0 : decide (m < 0) = false := decide_eq_false h0
  have KH := Aside0.mk (heads12_calls w s)
  by_cases h1 : headE s = 0
  ·have h2 := headE_size h1
   rw [h1] at KH
   have hx : (s.extract 2 s.size).size ≤ 1000000 := by rw [ByteArray.size_extract]; omega
   have hxs : (s.extract 2 s.size).size = s.size - 2 := by rw [ByteArray.size_extract]; omega
   have KI := fun W => inflate_calls W (s.extract 2 s.size) m hx hm
   have hq : (0 : Int) ≤ 2 ∧ (2 : Int) ≤ (s.size : Int) := by omega
   rcases inflF_cases (s.extract 2 s.size) m (by omega) with ⟨e, he, _, hr⟩ | ⟨p, o, hi, hr, hp1, hp2, ho⟩
   ·have e0 : unwrapF s m = (⟨#[]⟩, e) := by unfold unwrapF; rw [if_neg h0, if_pos h1, hr]; dsimp only; rw [if_neg he]
    rw [e0]
    rw [hr] at KI
    dsimp only at KI
    have KI := Aside0.mk KI
    have q1 : (e != 0) = true := bne_iff_ne.mpr he
    clear hr e0 h0 h1
    go_enter Tryz.func76, Tryz.ntmps76
    go_wp2_with fail
    refine KH.out.mono ?_
    rintro e1 w1 ⟨rfl, hb1⟩
    have HB1 := Aside0.mk hb1
    clear hb1
    go_wp2_with fail
    refine (KI.out w1).mono ?_
    rintro e2 w2 ⟨rfl, hb2⟩
    have HB2 := Aside0.mk (HB1.out.trans (hb2.mono HB1.out.size))
    clear hb2
    go_wp2_with fail
    go_returns
    exact ⟨rfl, HB2.out⟩
   ·have q2 : rdAt p ≤ (s.extract 2 s.size).size := by unfold rdAt; omega
    have hsz : (strOfNums o).size = o.length := strOfNums_size o
    rw [hr] at KI
    dsimp only at KI
    have KI := Aside0.mk KI
    have KT := fun W => tails12_calls W ((s.extract 2 s.size).extract (rdAt p) (s.extract 2 s.size).size) (strOfNums o) (by omega)
    obtain ⟨tE, htE⟩ : ∃ tE, tE = tailE ((s.extract 2 s.size).extract (rdAt p) (s.extract 2 s.size).size) (strOfNums o) := ⟨_, rfl⟩
    have hun : unwrapF s m = if tE = 0 then (strOfNums o, 0) else (⟨#[]⟩, tE) := by
     unfold unwrapF
     rw [if_neg h0, if_pos h1, hr]
     dsimp only
     rw [if_pos rfl, Int.toNat_natCast, ← htE]
    rw [← htE] at KT
    have KT := Aside0.mk KT
    have HU := Aside0.mk hun
    have KT := KT.out
    have KI := KI.out
    rw [hxs] at KT q2
    obtain ⟨n, hn⟩ : ∃ n, n = rdAt p := ⟨_, rfl⟩
    obtain ⟨out, hout⟩ : ∃ out, out = strOfNums o := ⟨_, rfl⟩
    rw [← hn] at q2
    rw [← hn, ← hout] at KI KT
    rw [← hout] at HU
    have KT := Aside0.mk KT
    have KI := Aside0.mk KI
    have hn0 : (0 : Int) ≤ (n : Int) := by omega
    have hns : n ≤ s.size - 2 := q2
    have hnt : (n ≤ s.size - 2) = True := eq_true q2
    clear hr hun htE hsz hn hout ho hp1 hp2 hi h0 h1 hx hxs
    by_cases h3 : tE = 0
    ·have hu := HU.out
     rw [if_pos h3] at hu
     rw [hu]
     subst h3
     clear hu HU
     go_enter Tryz.func76, Tryz.ntmps76
     go_wp2_with fail
     refine KH.out.mono ?_
     rintro e1 w1 ⟨rfl, hb1⟩
     have HB1 := Aside0.mk hb1
     clear hb1
     go_wp2_with fail
     refine (KI.out w1).mono ?_
     rintro e2 w2 ⟨rfl, hb2⟩
     have HB2 := Aside0.mk (HB1.out.trans (hb2.mono HB1.out.size))
     clear hb2 HB1
     go_wp2_with fail
     refine (KT.out w2).mono ?_
     rintro e3 w3 ⟨rfl, hb3⟩
     have HB3 := Aside0.mk (HB2.out.trans (hb3.mono HB2.out.size))
     clear hb3 HB2
     go_wp2_with fail
     go_returns
     exact ⟨rfl, HB3.out⟩
    ·have hu := HU.out
     rw [if_neg h3] at hu
     rw [hu]
     have q5 : (tE != 0) = true := bne_iff_ne.mpr h3
     clear hu HU
     go_enter Tryz.func76, Tryz.ntmps76
     go_wp2_with fail
     refine KH.out.mono ?_
     rintro e1 w1 ⟨rfl, hb1⟩
     have HB1 := Aside0.mk hb1
     clear hb1
     go_wp2_with fail
     refine (KI.out w1).mono ?_
     rintro e2 w2 ⟨rfl, hb2⟩
     have HB2 := Aside0.mk (HB1.out.trans (hb2.mono HB1.out.size))
     clear hb2 HB1
     go_wp2_with fail
     refine (KT.out w2).mono ?_
     rintro e3 w3 ⟨rfl, hb3⟩
     have HB3 := Aside0.mk (HB2.out.trans (hb3.mono HB2.out.size))
     clear hb3 HB2
     go_wp2_with fail
     go_returns
     exact ⟨rfl, HB3.out⟩
  ·have e0 : unwrapF s m = (⟨#[]⟩, headE s) := by unfold unwrapF; rw [if_neg h0, if_neg h1]
   rw [e0]
   obtain ⟨hE, hhE⟩ : ∃ hE, hE = headE s := ⟨_, rfl⟩
   rw [← hhE] at KH h1 ⊢
   have q1 : (hE != 0) = true := bne_iff_ne.mpr h1
   clear e0 hhE
   go_enter Tryz.func76, Tryz.ntmps76
   go_wp2_with fail
   refine KH.out.mono ?_
   rintro e1 w1 ⟨rfl, hb1⟩
   have HB1 := Aside0.mk hb1
   clear hb1
   go_wp2_with fail
   go_returns
   exact ⟨rfl, HB1.out⟩
end Go.Proofs.YtghoifkaikddlaaGreat.Hand
