/- Codes: what is left, the first numbers; walked by hand. Codes: Check, may; walked by hand. Codes: the first numbers; walked by hand. Codes: the codes; walked by hand. Codes: a symbol is written; walked by hand. Codes: a symbol is read; walked by hand. Codes: a tree is made; walked by hand. -/
import Derived.Test.YtghoifkaikddlaaGreatHand09
import Derived.Handy
import Derived.Test.YtghoifkaikddlaaGreatHand08p
import Derived.WalkMore
namespace Go.Proofs.YtghoifkaikddlaaGreat.Hand
open Go.RowKit Go.Proofs.YtghoifkaikddlaaGreatW.PrintWords Go.Proofs.YtghoifkaikddlaaGreatW.PrintLast Go.Proofs.YtghoifkaikddlaaGreatW.PrintMore Go.Proofs.YtghoifkaikddlaaGreat.Num
set_option linter.unusedVariables false
set_option linter.unusedSimpArgs false
def leftG : List Int → Int → Int
 | [], x => x
 | c :: t, x => if 2 * x - c < 0 then -1 else leftG t (2 * x - c)
def leftF (cs : List Int) : Int := leftG (cs.drop 1) 1
theorem leftG_drop (cs : List Int) (n : Nat) (h : n < cs.length) (x : Int) : leftG (cs.drop n) x = if 2 * x - cs.getD n 0 < 0 then -1 else leftG (cs.drop (n + 1)) (2 * x - cs.getD n 0) := by
 rw [List.drop_eq_getElem_cons h, leftG, List.getD_eq_getElem?_getD, List.getElem?_eq_getElem h]; rfl
theorem nums_at (cs : List Int) (m : Nat) (h : m < cs.length) : (nums .i64 cs).toArray[m]? = some (.int .i64 (cs.getD m 0)) := by
 rw [List.getD_eq_getElem?_getD]; simp [nums, List.getElem?_eq_getElem h]
theorem getD_rng9 {cs : List Int} {a b : Int} (hr : ∀ x ∈ cs, a ≤ x ∧ x ≤ b) (m : Nat) (h : m < cs.length) : a ≤ cs.getD m 0 ∧ cs.getD m 0 ≤ b := by
 rw [List.getD_eq_getElem?_getD, List.getElem?_eq_getElem h]
 exact hr _ (List.getElem_mem _)
set_option maxRecDepth 100000 in
set_option maxHeartbeats 4000000 in
theorem left_calls (cs : List Int) (hl : cs.length = 16) (hr : ∀ x ∈ cs, 0 ≤ x ∧ x ≤ 320) (w : World) :
  Calls Tryz.prog 185 #[.agg (nums .i64 cs).toArray] w fun e w' => e = .returned (.int .i64 (leftF cs)) ∧ Below w.heap.size w w' := by
 have HL := Aside0.mk hl
 have HR := Aside0.mk hr
 have hn16 : (nums .i64 cs).length = 16 := by rw [nums_length]; exact hl
 clear hl hr
 go_enter Tryz.func185, Tryz.ntmps185
 go_wp2_with fail
 obtain ⟨g, hg⟩ : ∃ g, g = w.heap.size := ⟨_, rfl⟩
 go_loopw [3, 4] (fun v3 v4 wr => ∃ (n : Nat) (x : Int), v3 = .int .i64 x ∧ v4 = .int .i64 n ∧ 1 ≤ n ∧ n ≤ 16 ∧ 0 ≤ x ∧ Aside0 (x ≤ 2 ^ (n - 1)) ∧ Aside0 (leftG (cs.drop n) x = leftF cs) ∧ Aside0 (wr.heap[w.heap.size]? = some (.cells (nums .i64 cs).toArray 177 (0, 0)) ∧ Below w.heap.size w wr)) (fun _ v4 _ => 16 - (intOf v4).toNat)
 case atStart => exact ⟨1, 1, rfl, rfl, by omega, by omega, by omega, ⟨by decide⟩, ⟨rfl⟩, ⟨heap_alloc_new _ _, below_alloc (Below.refl _ _) _⟩⟩
 case round =>
  obtain ⟨n, x, rfl, rfl, hn1, hn2, hx0, HX, HG, HW⟩ := hrel
  by_cases hlt : n ≤ 15
  ·have q1 : decide ((n : Int) ≤ 15) = true := decide_eq_true (by omega)
   have q1n : decide (n ≤ 15) = true := decide_eq_true hlt
   have hcl := HL.out
   have hy := getD_rng9 HR.out n (by omega)
   have hy2 := nums_at cs n (by omega)
   have hd := leftG_drop cs n (by omega) x
   have hp2 : (2 : Int) ^ (n - 1) ≤ 2 ^ 14 := by
    have := Nat.pow_le_pow_right (show 0 < 2 by decide) (show n - 1 ≤ 14 by omega)
    exact_mod_cast this
   have hx2 : x ≤ 16384 := by have := HX.out; omega
   obtain ⟨y, hyy⟩ : ∃ y, y = cs.getD n 0 := ⟨_, rfl⟩
   rw [← hyy] at hy hy2 hd
   have d1 : wr.cell? ⟨w.heap.size, n, none⟩ = some (.int .i64 y) := (blk_cell HW.out.1 n).trans hy2
   rw [HG.out] at hd
   have HD := Aside0.mk hd
   clear hy2 hd hp2 hyy hcl HG
   by_cases hneg : 2 * x - y < 0
   ·have q2 : decide (2 * x - y < 0) = true := decide_eq_true hneg
    go_wp2_with fail
    go_returns
    exact ⟨by rw [HD.out, if_pos hneg]; rfl, HW.out.2⟩
   ·have q2 : decide (2 * x - y < 0) = false := decide_eq_false hneg
    go_wp2_with fail
    go_roundw
    case rel =>
     refine ⟨n + 1, 2 * x - y, by go_num, by go_num, by omega, by omega, by omega, ⟨?_⟩, ⟨by rw [HD.out, if_neg hneg]⟩, HW⟩
     have e : (2 : Int) ^ (n + 1 - 1) = 2 * 2 ^ (n - 1) := by
      rw [show n + 1 - 1 = (n - 1) + 1 by omega, Int.pow_succ']
     have := HX.out
     rw [e]; omega
    case measure => simp [intOf]; omega
  ·have q1 : decide ((n : Int) ≤ 15) = false := decide_eq_false (by omega)
   have q1n : decide (n ≤ 15) = false := decide_eq_false hlt
   obtain rfl : n = 16 := by omega
   have hG := HG.out
   rw [List.drop_eq_nil_of_le (by rw [HL.out]; omega), leftG] at hG
   have HGG := Aside0.mk hG
   clear hG
   go_wp2_with fail
   go_returns
   exact ⟨by rw [HGG.out]; rfl, HW.out.2⟩
theorem cntE_cases (l : List Int) : cntE l = 0 ∨ cntE l = 2 ∨ cntE l = 3 := by
 unfold cntE
 by_cases h : 320 < l.length
 ·rw [if_pos h]; exact .inr (.inl rfl)
 ·rw [if_neg h]
  split
  ·exact .inl rfl
  ·exact .inr (.inr rfl)
theorem cntL_length (l : List Int) : (cntL l).length = 16 := by
 unfold cntL; split
 ·rw [List.length_set, cntS_length]; rfl
 ·rfl
theorem cntL_range (l : List Int) : ∀ x ∈ cntL l, 0 ≤ x ∧ x ≤ 320 := by
 unfold cntL; split
 ·rename_i h
  have hl : l.length ≤ 320 := by
   unfold cntE at h; split at h
   ·cases h
   ·omega
  intro x hx
  rcases List.mem_or_eq_of_mem_set hx with hx | rfl
  ·have := cntS_range l zeros 0 (by unfold zeros; simp) (by omega) x hx; omega
  ·omega
 ·unfold zeros; simp
end Go.Proofs.YtghoifkaikddlaaGreat.Hand
namespace Go.Proofs.YtghoifkaikddlaaGreat.Hand
open Go.RowKit Go.Proofs.YtghoifkaikddlaaGreatW.PrintWords Go.Proofs.YtghoifkaikddlaaGreatW.PrintLast Go.Proofs.YtghoifkaikddlaaGreatW.PrintMore Go.Proofs.YtghoifkaikddlaaGreat.Num
set_option linter.unusedVariables false
set_option linter.unusedSimpArgs false
theorem infoInt9 : (Tryz.prog.info? 3).map (·.size) = some 1 := by kernel_rfl
theorem cellsInt9 : Tryz.prog.cellsOf 3 = 1 := by kernel_rfl
theorem eqItems_nums (d : Nat) (xs ys : List Int) (w : World) : ∀ is : List Nat, (∀ i ∈ is, i < xs.length ∧ i < ys.length) →
  (Op.eqItems (d + 1) 3 1 (nums .i64 xs).toArray (nums .i64 ys).toArray is).run Tryz.prog w = .ok (is.all fun i => xs.getD i 0 == ys.getD i 0) w
 | [], _ => by simp [Op.eqItems]
 | i :: is, h => by
  have h0 := h i (List.mem_cons_self ..)
  have ih := eqItems_nums d xs ys w is (fun j hj => h j (List.mem_cons_of_mem _ hj))
  have p1 := nums_at xs i h0.1
  have p2 := nums_at ys i h0.2
  have hp : ∀ zs : List Int, (nums .i64 zs).toArray[i]? = some (.int .i64 (zs.getD i 0)) → (part 3 (nums .i64 zs).toArray i).run Tryz.prog w = .ok (.int .i64 (zs.getD i 0)) w := by
   intro zs hz
   have hag : (isAgg 3).run Tryz.prog w = .ok false w := by
    unfold isAgg; rw [Sem.run_bind, run_underlying Tryz.underlying3 w]; rfl
   unfold part
   rw [Sem.run_bind, hag]
   simp only [Result.andThen_ok, Bool.false_eq_true, if_false]
   rw [hz]; rfl
  simp only [Op.eqItems, Nat.mul_one, Sem.run_bind, hp xs p1, hp ys p2, Result.andThen_ok, run_equalIn_int w d 3 .i64 .i64 (xs.getD i 0) (ys.getD i 0) Tryz.underlying3, List.all_cons]
  cases hq : (xs.getD i 0 == ys.getD i 0)
  ·simp
  ·simpa using ih
set_option maxRecDepth 100000 in
theorem eq_arr (cs : List Int) (hl : cs.length = 16) (w : World) : (Op.equalIn 10000 177 (.agg (nums .i64 cs).toArray) (.agg (nums .i64 zeros).toArray)).run Tryz.prog w = .ok (decide (cs = zeros)) w := by
 obtain ⟨i, hi, hz⟩ := Option.map_eq_some_iff.1 infoInt9
 rw [show (10000 : Nat) = 9999 + 1 from rfl, run_equalIn_array w 9999 _ _ Tryz.underlying177 hi, cellsInt9, show (9999 : Nat) = 9998 + 1 from rfl, eqItems_nums 9998 cs zeros w (List.range 16) (fun i hi => by rw [hl]; exact ⟨by simpa using hi, by simpa [zeros] using hi⟩)]
 congr 1
 rw [Bool.eq_iff_iff, List.all_eq_true, decide_eq_true_iff]
 constructor
 ·intro h
  refine List.ext_getElem (by rw [hl]; rfl) (fun j h1 h2 => ?_)
  have := h j (by simpa using (by omega : j < 16))
  rw [beq_iff_eq, List.getD_eq_getElem?_getD, List.getElem?_eq_getElem h1, List.getD_eq_getElem?_getD, List.getElem?_eq_getElem h2] at this
  exact this
 ·rintro rfl j hj
  simp
def chkF (l : List Int) : Int := if cntE l ≠ 0 then cntE l else if cntL l = zeros then 12 else if leftF (cntL l) < 0 then 7 else if 0 < leftF (cntL l) then 5 else 0
set_option maxRecDepth 100000 in
set_option maxHeartbeats 4000000 in
theorem check_calls (A : Option Addr) (n c : Nat) (l : List Int) (w : World) (hn : n = l.length) (hr : ReadsInt w .i64 A l.length l) (hc : n ≤ c) :
  Calls Tryz.prog 176 #[.slice A n c] w fun e w' => e = .returned (.int .i64 (chkF l)) ∧ Below w.heap.size w w' := by
 subst hn
 have HL := Aside0.mk (cntL_length l)
 have HR := Aside0.mk (cntL_range l)
 have HI := Aside0.mk (show (nums .i64 (cntL l)).length = 16 by rw [nums_length]; exact cntL_length l)
 obtain ⟨cs, hcs⟩ : ∃ cs, cs = cntL l := ⟨_, rfl⟩
 obtain ⟨ce, hce⟩ : ∃ ce, ce = cntE l := ⟨_, rfl⟩
 rw [← hcs] at HL HR HI
 have HC : Aside0 (chkF l = if ce ≠ 0 then ce else if cs = zeros then 12 else if leftF cs < 0 then 7 else if 0 < leftF cs then 5 else 0) := ⟨by unfold chkF; rw [← hcs, ← hce]⟩
 have HK := Aside0.mk (counted_calls A l.length c l w rfl hr hc)
 rw [← hcs, ← hce] at HK
 clear hcs hce hr

 go_enter Tryz.func176, Tryz.ntmps176
 go_wp2_with fail

 refine HK.out.mono ?_

 rintro e w1 ⟨rfl, hb1⟩
 have HB1 := Aside0.mk hb1
 clear hb1

 go_wp2_with (first | (refine wpList_store_mid rfl 177 _ _ rfl w1.heap.size 0 (nums .i64 cs).toArray rfl rfl (arr_there (cs := nums .i64 zeros) (t := 177) (heap_alloc_new w1 _) _ (by rw [List.size_toArray, HI.out]; rfl)) (by rw [infoArr]; simpa using HI.out.symm) (all_oneCell_toArray (nums_one _ _)) ?_) | (refine wpList_load_row rfl 177 _ rfl w1.heap.size rfl 177 (nums .i64 cs).toArray (0, 0) _ (setCells_blk (cs := nums .i64 zeros) (heap_alloc_new w1 _) (by rw [HI.out]; rfl)) Tryz.underlying177 rfl (by rw [infoArr]; simpa using HI.out.symm) ?_))
 have H2 : Aside0 (_ ∧ _) := ⟨setCells_blk (vs := nums .i64 cs) (cs := nums .i64 zeros) (t := 177) (heap_alloc_new w1 (.cells (nums .i64 zeros).toArray 177)) (by rw [HI.out]; rfl), (HB1.out.alloc HB1.out.size _).trans ((setCells_fr w1.heap.size (nums .i64 cs) 0 (w1.alloc (.cells (nums .i64 zeros).toArray 177))).below (by rintro k rfl; exact HB1.out.size) (by simp; have := HB1.out.size; omega))⟩
 refine (left_calls cs HL.out HR.out _).mono ?_
 rintro e w3 ⟨rfl, hb3⟩
 have H3 : Aside0 (_ ∧ _) := ⟨(Fr.of_below hb3 (fun _ => False)).blk H2.out.1 id, H2.out.2.trans (hb3.mono H2.out.2.size)⟩
 clear hb3 H2 HB1 HK
 obtain ⟨lf, hlf⟩ : ∃ lf, lf = leftF cs := ⟨_, rfl⟩
 rw [← hlf] at HC ⊢
 clear hlf
 by_cases h1 : ce ≠ 0
 ·have q1 : (ce != 0) = true := by simpa using h1
  have HC2 : Aside0 (chkF l = ce) := ⟨by rw [HC.out, if_pos h1]⟩
  clear HC h1
  go_wp2_with fail
  go_returns
  exact ⟨by rw [HC2.out]; rfl, H3.out.2⟩
 ·have q1 : (ce != 0) = false := by simpa using h1
  rw [if_neg h1] at HC
  clear h1
  have HEQ := Aside0.mk (eq_arr cs HL.out)
  by_cases h2 : cs = zeros
  ·rw [if_pos h2] at HC
   have hq : ∀ W, (Op.equalIn 10000 177 (.agg (nums .i64 cs).toArray) (.agg #[.int .i64 0, .int .i64 0, .int .i64 0, .int .i64 0, .int .i64 0, .int .i64 0, .int .i64 0, .int .i64 0, .int .i64 0, .int .i64 0, .int .i64 0, .int .i64 0, .int .i64 0, .int .i64 0, .int .i64 0, .int .i64 0])).run Tryz.prog W = .ok true W := fun W => by
    have := HEQ.out W; rw [decide_eq_true h2] at this; exact this
   clear h2
   go_wp2_with (refine wpList_load_row rfl 177 _ rfl w1.heap.size rfl 177 (nums .i64 cs).toArray (0, 0) _ H3.out.1 Tryz.underlying177 rfl (by rw [infoArr]; simpa using HI.out.symm) ?_)
   go_returns
   exact ⟨by rw [HC.out]; rfl, H3.out.2⟩
  ·rw [if_neg h2] at HC
   have hq : ∀ W, (Op.equalIn 10000 177 (.agg (nums .i64 cs).toArray) (.agg #[.int .i64 0, .int .i64 0, .int .i64 0, .int .i64 0, .int .i64 0, .int .i64 0, .int .i64 0, .int .i64 0, .int .i64 0, .int .i64 0, .int .i64 0, .int .i64 0, .int .i64 0, .int .i64 0, .int .i64 0, .int .i64 0])).run Tryz.prog W = .ok false W := fun W => by
    have := HEQ.out W; rw [decide_eq_false h2] at this; exact this
   clear h2
   by_cases h3 : lf < 0
   ·have q3 : decide (lf < 0) = true := decide_eq_true h3
    rw [if_pos h3] at HC
    go_wp2_with (refine wpList_load_row rfl 177 _ rfl w1.heap.size rfl 177 (nums .i64 cs).toArray (0, 0) _ H3.out.1 Tryz.underlying177 rfl (by rw [infoArr]; simpa using HI.out.symm) ?_)
    go_returns
    exact ⟨by rw [HC.out]; rfl, H3.out.2⟩
   ·have q3 : decide (lf < 0) = false := decide_eq_false h3
    rw [if_neg h3] at HC
    by_cases h4 : 0 < lf
    ·have q4 : decide (0 < lf) = true := decide_eq_true h4
     rw [if_pos h4] at HC
     go_wp2_with (refine wpList_load_row rfl 177 _ rfl w1.heap.size rfl 177 (nums .i64 cs).toArray (0, 0) _ H3.out.1 Tryz.underlying177 rfl (by rw [infoArr]; simpa using HI.out.symm) ?_)
     go_returns
     exact ⟨by rw [HC.out]; rfl, H3.out.2⟩
    ·have q4 : decide (0 < lf) = false := decide_eq_false h4
     rw [if_neg h4] at HC
     go_wp2_with (refine wpList_load_row rfl 177 _ rfl w1.heap.size rfl 177 (nums .i64 cs).toArray (0, 0) _ H3.out.1 Tryz.underlying177 rfl (by rw [infoArr]; simpa using HI.out.symm) ?_)
     go_returns
     exact ⟨by rw [HC.out]; rfl, H3.out.2⟩
def mayF (l : List Int) : Int := if chkF l = 12 ∨ chkF l = 5 then 0 else chkF l
set_option maxRecDepth 100000 in
set_option maxHeartbeats 4000000 in
theorem may_calls (A : Option Addr) (c : Nat) (l : List Int) (w : World) (hr : ReadsInt w .i64 A l.length l) (hc : l.length ≤ c) :
  Calls Tryz.prog 178 #[.slice A l.length c] w fun e w' => e = .returned (.int .i64 (mayF l)) ∧ Below w.heap.size w w' := by
 have HK := Aside0.mk (check_calls A l.length c l w rfl hr hc)
 obtain ⟨x, hx⟩ : ∃ x, x = chkF l := ⟨_, rfl⟩
 have HM : Aside0 (mayF l = if x = 12 ∨ x = 5 then 0 else x) := ⟨by unfold mayF; rw [← hx]⟩
 rw [← hx] at HK
 clear hx hr
 by_cases h1 : x = 12
 ·subst h1
  have HM2 : Aside0 (mayF l = 0) := ⟨by rw [HM.out, if_pos (.inl rfl)]⟩
  go_enter Tryz.func178, Tryz.ntmps178
  go_wp2_with fail
  refine HK.out.mono ?_
  rintro e w1 ⟨rfl, hb1⟩
  go_wp2_with fail
  go_returns
  exact ⟨by rw [HM2.out]; rfl, hb1⟩
 ·by_cases h2 : x = 5
  ·subst h2
   have HM2 : Aside0 (mayF l = 0) := ⟨by rw [HM.out, if_pos (.inr rfl)]⟩
   go_enter Tryz.func178, Tryz.ntmps178
   go_wp2_with fail
   refine HK.out.mono ?_
   rintro e w1 ⟨rfl, hb1⟩
   go_wp2_with fail
   go_returns
   exact ⟨by rw [HM2.out]; rfl, hb1⟩
  ·have HM2 : Aside0 (mayF l = x) := ⟨by rw [HM.out, if_neg (fun h => h.elim h1 h2)]⟩
   have q1 : (x == 12) = false := beq_eq_false_iff_ne.2 h1
   have q2 : (x == 5) = false := beq_eq_false_iff_ne.2 h2
   go_enter Tryz.func178, Tryz.ntmps178
   go_wp2_with fail
   refine HK.out.mono ?_
   rintro e w1 ⟨rfl, hb1⟩
   go_wp2_with fail
   go_returns
   exact ⟨by rw [HM2.out]; rfl, hb1⟩
end Go.Proofs.YtghoifkaikddlaaGreat.Hand
namespace Go.Proofs.YtghoifkaikddlaaGreat.Hand
open Go.RowKit Go.Proofs.YtghoifkaikddlaaGreatW.PrintWords Go.Proofs.YtghoifkaikddlaaGreatW.PrintLast Go.Proofs.YtghoifkaikddlaaGreatW.PrintMore Go.Proofs.YtghoifkaikddlaaGreat.Num
set_option linter.unusedVariables false
set_option linter.unusedSimpArgs false
def fst9 (cs : List Int) : Nat → Int
 | 0 => 0
 | n + 1 => 2 * (fst9 cs n + cs.getD n 0)
def fstL (cs : List Int) (n : Nat) : List Int := (List.range 16).map (fun k => if k < n then fst9 cs k else 0)
theorem fstL_length (cs : List Int) (n : Nat) : (fstL cs n).length = 16 := by simp [fstL]
theorem fstL_getD (cs : List Int) (n k : Nat) (h : k < 16) : (fstL cs n).getD k 0 = if k < n then fst9 cs k else 0 := by
 rw [List.getD_eq_getElem?_getD]; simp [fstL, h]
theorem fstL_one (cs : List Int) : fstL cs 1 = zeros := by
 refine List.ext_getElem (by rw [fstL_length]; rfl) (fun j h1 h2 => ?_)
 simp only [fstL, List.getElem_map, List.getElem_range, zeros, List.getElem_replicate]
 split
 ·rw [show j = 0 by omega]; rfl
 ·rfl
theorem fstL_set (cs : List Int) (n : Nat) : (fstL cs n).set n (fst9 cs n) = fstL cs (n + 1) := by
 refine List.ext_getElem (by rw [List.length_set, fstL_length, fstL_length]) (fun j h1 h2 => ?_)
 rw [List.getElem_set]
 simp only [fstL, List.getElem_map, List.getElem_range]
 by_cases h : n = j
 ·subst h; simp
 ·rw [if_neg h]
  by_cases h3 : j < n
  ·rw [if_pos h3, if_pos (by omega)]
  ·rw [if_neg h3, if_neg (by omega)]
theorem fst9_range (cs : List Int) (hr : ∀ x ∈ cs, 0 ≤ x ∧ x ≤ 320) : ∀ n, 0 ≤ fst9 cs n ∧ fst9 cs n + 640 ≤ 640 * 2 ^ n
 | 0 => by simp [fst9]
 | n + 1 => by
  have h := fst9_range cs hr n
  have hg : 0 ≤ cs.getD n 0 ∧ cs.getD n 0 ≤ 320 := by
   by_cases hn : n < cs.length
   ·exact getD_rng9 hr n hn
   ·rw [List.getD_eq_getElem?_getD, List.getElem?_eq_none (by omega)]; simp
  rw [fst9, Int.pow_succ']
  omega
theorem fst9_small (cs : List Int) (hr : ∀ x ∈ cs, 0 ≤ x ∧ x ≤ 320) (n : Nat) (h : n ≤ 15) : 0 ≤ fst9 cs n ∧ fst9 cs n ≤ 20971520 := by
 have h1 := fst9_range cs hr n
 have h2 : (2 : Int) ^ n ≤ 2 ^ 15 := by
  have := Nat.pow_le_pow_right (show 0 < 2 by decide) h
  exact_mod_cast this
 omega
set_option maxRecDepth 100000 in
set_option maxHeartbeats 4000000 in
theorem firsts_calls (cs : List Int) (hl : cs.length = 16) (hr : ∀ x ∈ cs, 0 ≤ x ∧ x ≤ 320) (w : World) :
  Calls Tryz.prog 179 #[.agg (nums .i64 cs).toArray] w fun e w' => e = .returned (.agg (nums .i64 (fstL cs 16)).toArray) ∧ Below w.heap.size w w' := by
 have HL := Aside0.mk hl
 have HR := Aside0.mk hr
 clear hl hr
 go_enter Tryz.func179, Tryz.ntmps179
 go_wp2_with fail
 obtain ⟨g, hg⟩ : ∃ g, g = w.heap.size := ⟨_, rfl⟩
 go_loopw [4] (fun v4 wr => ∃ (n : Nat), v4 = .int .i64 n ∧ 1 ≤ n ∧ n ≤ 16 ∧ Aside0 (wr.heap[w.heap.size]? = some (.cells (nums .i64 cs).toArray 177 (0, 0)) ∧ wr.heap[w.heap.size + 1]? = some (.cells (nums .i64 zeros).toArray 177 (0, 0)) ∧ wr.heap[w.heap.size + 1 + 1]? = some (.cells (nums .i64 (fstL cs n)).toArray 177 (0, 0)) ∧ Below w.heap.size w wr)) (fun v4 _ => 16 - (intOf v4).toNat)
 case atStart => exact ⟨1, rfl, by omega, by omega, ⟨blk_alloc (blk_alloc (heap_alloc_new _ _) _) _, blk_alloc (heap_alloc2_new _ _ _) _, by rw [fstL_one]; have h := heap_alloc2_new (w.alloc (.cells (nums .i64 cs).toArray 177)) (.cells (nums .i64 zeros).toArray 177) (.cells (nums .i64 zeros).toArray 177); rw [show (w.alloc (.cells (nums .i64 cs).toArray 177)).heap.size = w.heap.size + 1 by simp] at h; exact h, below_alloc (below_alloc (below_alloc (Below.refl _ _) _) _) _⟩⟩
 case round =>
  obtain ⟨n, rfl, hn1, hn2, HW⟩ := hrel
  by_cases hlt : n ≤ 15
  ·have q1 : decide ((n : Int) ≤ 15) = true := decide_eq_true (by omega)
   have q1n : decide (n ≤ 15) = true := decide_eq_true hlt
   obtain ⟨m, hm⟩ : ∃ m, n = m + 1 := ⟨n - 1, by omega⟩
   have hw : (n : Int) - 1 = (m : Int) := by omega
   have hm15 : m < 15 := by omega
   obtain ⟨x, hx⟩ : ∃ x, x = (fstL cs n).getD m 0 := ⟨_, rfl⟩
   obtain ⟨y, hy⟩ : ∃ y, y = cs.getD m 0 := ⟨_, rfl⟩
   have hcl := HL.out
   have hyr := getD_rng9 HR.out m (by omega)
   have hx2 : x = fst9 cs m := by rw [hx, fstL_getD _ _ _ (by omega), if_pos (by omega)]
   have hxr := fst9_small cs HR.out m (by omega)
   rw [← hx2] at hxr
   rw [← hy] at hyr
   have d1 : wr.cell? ⟨w.heap.size + 1 + 1, m, none⟩ = some (.int .i64 x) := by rw [hx]; exact (blk_cell HW.out.2.2.1 m).trans (nums_at _ m (by rw [fstL_length]; omega))
   have d2 : wr.cell? ⟨w.heap.size, m, none⟩ = some (.int .i64 y) := by rw [hy]; exact (blk_cell HW.out.1 m).trans (nums_at _ m (by omega))
   have d3 : wr.cell? ⟨w.heap.size + 1 + 1, n, none⟩ = some (.int .i64 ((fstL cs n).getD n 0)) := (blk_cell HW.out.2.2.1 n).trans (nums_at _ n (by rw [fstL_length]; omega))
   have d4 := blk_frozen HW.out.2.2.1 n
   have HS : Aside0 ((fstL cs n).set n (2 * (x + y)) = fstL cs (n + 1)) := ⟨by
    rw [← fstL_set]
    have e : fst9 cs n = 2 * (x + y) := by rw [hm, hx2, hy]; rfl
    rw [e]⟩
   clear hx hy hcl hx2 hm
   go_wp2_with fail
   go_region
   go_wp2
   go_roundw
   case rel =>
    refine ⟨n + 1, by go_num, by omega, by omega, ⟨?_, ?_, ?_, ?_⟩⟩
    ·exact (heap_setCell_other _ _ _ _ (by simp; omega)).trans HW.out.1
    ·exact (heap_setCell_other _ _ _ _ (by simp)).trans HW.out.2.1
    ·refine (blk_set HW.out.2.2.1 n _).trans ?_
     rw [← HS.out]
     simp [nums, List.map_set]
    ·exact (HW.out.2.2.2.setCell (by simp; omega) _).drew
   case measure => simp [intOf]; omega
  ·have q1 : decide ((n : Int) ≤ 15) = false := decide_eq_false (by omega)
   have q1n : decide (n ≤ 15) = false := decide_eq_false hlt
   obtain rfl : n = 16 := by omega
   clear hlt hn1 hn2
   have HI : Aside0 ((nums .i64 (fstL cs 16)).length = 16) := ⟨by rw [nums_length, fstL_length]⟩
   obtain ⟨fs, hfs⟩ : ∃ fs, fs = fstL cs 16 := ⟨_, rfl⟩
   rw [← hfs] at HW HI
   have HF := Aside0.mk hfs
   clear hfs
   go_wp2_with (first | (refine wpList_load_row rfl 177 _ rfl (w.heap.size + 1 + 1) rfl 177 (nums .i64 fs).toArray (0, 0) _ HW.out.2.2.1 Tryz.underlying177 rfl (by rw [infoArr]; simpa using HI.out.symm) ?_) | (refine wpList_store_mid rfl 177 _ _ rfl (w.heap.size + 1) 0 (nums .i64 fs).toArray rfl rfl (arr_there HW.out.2.1 _ (by rw [List.size_toArray, HI.out]; rfl)) (by rw [infoArr]; simpa using HI.out.symm) (all_oneCell_toArray (nums_one _ _)) ?_))
   repeat (rw [Exit.noGoto_ret])
   exact bodyPost_ret (results_cell_row Tryz.results179 _ _ (w.heap.size + 1) 177 (nums .i64 fs).toArray (0, 0) _ rfl (setCells_blk HW.out.2.1 (by rw [HI.out]; rfl)) Tryz.underlying177 rfl (by rw [infoArr]; simpa using HI.out.symm)) rfl ⟨by rw [HF.out], HW.out.2.2.2.trans ((setCells_fr _ _ _ _).below (by rintro k rfl; omega) HW.out.2.2.2.size)⟩
end Go.Proofs.YtghoifkaikddlaaGreat.Hand
namespace Go.Proofs.YtghoifkaikddlaaGreat.Hand
open Go.RowKit Go.Proofs.YtghoifkaikddlaaGreatW.PrintWords Go.Proofs.YtghoifkaikddlaaGreatW.PrintLast Go.Proofs.YtghoifkaikddlaaGreatW.PrintMore Go.Proofs.YtghoifkaikddlaaGreat.Num
set_option linter.unusedVariables false
set_option linter.unusedSimpArgs false
theorem infoI649 : (Tryz.prog.info? 3).map (fun i => (i.zero, i.size, i.bytes)) = some (some (.int .i64 0), 1, 8) := by kernel_rfl
def nx9 : List Int → List Int → List Int
 | nx, [] => nx
 | nx, n :: t => nx9 (if 0 < n then nx.set n.toNat (nx.getD n.toNat 0 + 1) else nx) t
def code9 : List Int → List Int → List Int
 | _, [] => []
 | nx, n :: t => (if 0 < n then nx.getD n.toNat 0 else 0) :: code9 (if 0 < n then nx.set n.toNat (nx.getD n.toNat 0 + 1) else nx) t
theorem nx9_snoc : ∀ (l nx : List Int) (n : Int), nx9 nx (l ++ [n]) = if 0 < n then (nx9 nx l).set n.toNat ((nx9 nx l).getD n.toNat 0 + 1) else nx9 nx l
 | [], _, _ => rfl
 | _ :: t, _, _ => nx9_snoc t _ _
theorem code9_snoc : ∀ (l nx : List Int) (n : Int), code9 nx (l ++ [n]) = code9 nx l ++ [if 0 < n then (nx9 nx l).getD n.toNat 0 else 0]
 | [], _, _ => rfl
 | a :: t, nx, n => by
  rw [List.cons_append, code9, code9_snoc t _ n, code9, List.cons_append]; rfl
theorem code9_length : ∀ (l nx : List Int), (code9 nx l).length = l.length
 | [], _ => rfl
 | _ :: t, _ => by rw [code9, List.length_cons, code9_length t, List.length_cons]
theorem nx9_length : ∀ (l nx : List Int), (nx9 nx l).length = nx.length
 | [], _ => rfl
 | n :: t, nx => by rw [nx9, nx9_length t]; split <;> simp
theorem nx9_range : ∀ (l nx : List Int) (B : Int), (∀ x ∈ nx, 0 ≤ x ∧ x ≤ B) → 0 ≤ B → ∀ x ∈ nx9 nx l, 0 ≤ x ∧ x ≤ B + l.length
 | [], nx, B, h, _ => by simpa [nx9] using h
 | n :: t, nx, B, h, hB => by
  intro x hx
  have h2 := nx9_range t _ (B + 1) (fun y hy => ?_) (by omega) x hx
  ·rw [List.length_cons]; omega
  ·have hg : 0 ≤ nx.getD n.toNat 0 ∧ nx.getD n.toNat 0 ≤ B := by
    rw [List.getD_eq_getElem?_getD]
    cases hc : nx[n.toNat]? with
    | none => simpa using hB
    | some z => exact h z (List.mem_of_getElem? hc)
   split at hy
   ·rcases List.mem_or_eq_of_mem_set hy with hy | rfl
    ·have := h y hy; omega
    ·omega
   ·have := h y hy; omega
theorem fstL_range (cs : List Int) (hr : ∀ x ∈ cs, 0 ≤ x ∧ x ≤ 320) (n : Nat) : ∀ x ∈ fstL cs n, 0 ≤ x ∧ x ≤ 20971520 := by
 intro x hx
 simp only [fstL, List.mem_map, List.mem_range] at hx
 obtain ⟨k, hk, rfl⟩ := hx
 split
 ·exact fst9_small cs hr k (by omega)
 ·omega
theorem may_zero {l : List Int} (h : mayF l = 0) : l.length ≤ 320 ∧ ∀ x ∈ l, 0 ≤ x ∧ x ≤ 15 := by
 have hc : cntE l = 0 := by
  rcases cntE_cases l with h0 | h0 | h0
  ·exact h0
  ·unfold mayF chkF at h; simp [h0] at h
  ·unfold mayF chkF at h; simp [h0] at h
 unfold cntE at hc
 by_cases h1 : 320 < l.length
 ·rw [if_pos h1] at hc; cases hc
 ·rw [if_neg h1] at hc
  refine ⟨by omega, ?_⟩
  split at hc
  ·rename_i h2
   intro x hx
   simpa using List.all_eq_true.1 h2 x hx
  ·cases hc
def codesF (l : List Int) : List Int := if mayF l = 0 then code9 (fstL (cntL l) 16) l else []
set_option maxRecDepth 100000 in
set_option maxHeartbeats 4000000 in
theorem codes_calls (A : Option Addr) (c : Nat) (l : List Int) (w : World) (hr : ReadsInt w .i64 A l.length l) (hc : l.length ≤ c) :
  Calls Tryz.prog 168 #[.slice A l.length c] w fun e w' => ∃ v, e = .returned (.tuple #[v, .int .i64 (mayF l)]) ∧ Row w' w.heap.size 3 .i64 v (codesF l) ∧ Below w.heap.size w w' := by
 have HR := Aside0.mk hr
 have HK := Aside0.mk (may_calls A c l w hr hc)
 clear hr
 by_cases hm : mayF l = 0
 ·obtain ⟨hl, hx⟩ := may_zero hm
  have HX := Aside0.mk hx
  have HM := Aside0.mk hm
  have HCF : Aside0 (codesF l = code9 (fstL (cntL l) 16) l) := ⟨by unfold codesF; rw [if_pos hm]⟩
  rw [hm] at HK
  clear hm hx
  have kmk := print_make (P := Tryz.prog) 74 3 .i64 8 Tryz.underlying74 infoI649 (by decide) l.length (by omega)
  go_enter Tryz.func168, Tryz.ntmps168
  go_wp2_with fail
  refine HK.out.mono ?_
  rintro e w1 ⟨rfl, hb1⟩
  have HB1 := Aside0.mk hb1
  have HR1 := Aside0.mk (HR.out.below hb1)
  clear hb1 HK
  go_wp2_with fail
  refine (counted_calls A l.length c l w1 rfl HR1.out hc).mono ?_
  rintro e w2 ⟨rfl, hb2⟩
  have HB2 := Aside0.mk (HB1.out.trans (hb2.mono HB1.out.size))
  have HR2 := Aside0.mk (HR1.out.below hb2)
  have HL := Aside0.mk (cntL_length l)
  have HRG := Aside0.mk (cntL_range l)
  have HI := Aside0.mk (show (nums .i64 (cntL l)).length = 16 by rw [nums_length]; exact cntL_length l)
  obtain ⟨cs, hcs⟩ : ∃ cs, cs = cntL l := ⟨_, rfl⟩
  obtain ⟨ce, hce⟩ : ∃ ce, ce = cntE l := ⟨_, rfl⟩
  rw [← hcs] at HL HRG HI HCF
  rw [← hcs, ← hce]
  clear hb2 HB1 HR1 hcs hce
  go_wp2_with (first | (refine wpList_store_mid rfl 177 _ _ rfl w2.heap.size 0 (nums .i64 cs).toArray rfl rfl (arr_there (cs := nums .i64 zeros) (t := 177) (heap_alloc_new w2 _) _ (by rw [List.size_toArray, HI.out]; rfl)) (by rw [infoArr]; simpa using HI.out.symm) (all_oneCell_toArray (nums_one _ _)) ?_) | (refine wpList_load_row rfl 177 _ rfl w2.heap.size rfl 177 (nums .i64 cs).toArray (0, 0) _ (setCells_blk (cs := nums .i64 zeros) (heap_alloc_new w2 _) (by rw [HI.out]; rfl)) Tryz.underlying177 rfl (by rw [infoArr]; simpa using HI.out.symm) ?_))
  have H3 : Aside0 (Below w.heap.size w _) := ⟨(HB2.out.alloc HB2.out.size (.cells (nums .i64 zeros).toArray 177)).trans ((setCells_fr w2.heap.size (nums .i64 cs) 0 (w2.alloc (.cells (nums .i64 zeros).toArray 177))).below (by rintro k rfl; exact HB2.out.size) (by simp; have := HB2.out.size; omega))⟩
  refine (firsts_calls cs HL.out HRG.out _).mono ?_
  rintro e w4 ⟨rfl, hb4⟩
  have HB4 := Aside0.mk (H3.out.trans (hb4.mono H3.out.size))
  have HFR := Aside0.mk (fstL_range cs HRG.out 16)
  have HFL := Aside0.mk (fstL_length cs 16)
  have HFI := Aside0.mk (show (nums .i64 (fstL cs 16)).length = 16 by rw [nums_length]; exact fstL_length cs 16)
  obtain ⟨fs, hfs⟩ : ∃ fs, fs = fstL cs 16 := ⟨_, rfl⟩
  rw [← hfs] at HFR HFL HFI HCF ⊢
  clear hb4 H3 HB2 HR2 HL HRG HI hfs
  go_wp2_with (refine wpList_store_mid rfl 177 _ _ rfl w4.heap.size 0 (nums .i64 fs).toArray rfl rfl (arr_there (cs := nums .i64 zeros) (t := 177) (heap_alloc_new w4 _) _ (by rw [List.size_toArray, HFI.out]; rfl)) (by rw [infoArr]; simpa using HFI.out.symm) (all_oneCell_toArray (nums_one _ _)) ?_)
  generalize hW : (w4.alloc (.cells #[.int .i64 0, .int .i64 0, .int .i64 0, .int .i64 0, .int .i64 0, .int .i64 0, .int .i64 0, .int .i64 0, .int .i64 0, .int .i64 0, .int .i64 0, .int .i64 0, .int .i64 0, .int .i64 0, .int .i64 0, .int .i64 0] 177)).setCells w4.heap.size 0 (nums .i64 fs) = W5
  have hA : W5.heap[w4.heap.size]? = some (.cells (nums .i64 fs).toArray 177 (0, 0)) := by
   rw [← hW]; exact setCells_blk (cs := nums .i64 zeros) (heap_alloc_new w4 _) (by rw [HFI.out]; rfl)
  have hB5 : Below w.heap.size w W5 := by
   rw [← hW]
   exact (HB4.out.alloc HB4.out.size _).trans ((setCells_fr w4.heap.size (nums .i64 fs) 0 _).below (by rintro k rfl; exact HB4.out.size) (by simp; have := HB4.out.size; omega))
  have hlt5 := blk_lt hA
  have hga : w.heap.size ≤ w4.heap.size := HB4.out.size
  obtain ⟨a, ha⟩ : ∃ a, a = w4.heap.size := ⟨_, rfl⟩
  obtain ⟨r, hr⟩ : ∃ r, r = W5.heap.size := ⟨_, rfl⟩
  have hR6 : Row (W5.alloc (.cells (madeCells #[.int .i64 0] l.length) 3)) w.heap.size 3 .i64 (.slice (some ⟨r, 0, none⟩) l.length l.length) (List.replicate l.length 0) := by
   rw [hr]; exact Row.made W5 w.heap.size 3 .i64 l.length (by omega) (by omega)
  have H6 : Aside0 (_ ∧ _ ∧ _) := ⟨blk_alloc hA (.cells (madeCells #[.int .i64 0] l.length) 3), hR6, below_alloc hB5 (.cells (madeCells #[.int .i64 0] l.length) 3)⟩
  rw [← ha] at H6 hlt5 hga ⊢
  rw [← hr] at hlt5 ⊢
  have HNE := Aside0.mk (And.intro hlt5 hga)
  clear hW hA hB5 ha hr hR6 hlt5 hga HB4
  generalize W5.alloc (.cells (madeCells #[.int .i64 0] l.length) 3) = W6 at H6 ⊢
  go_loopw [28] (fun v28 wr => ∃ (i : Nat), i ≤ l.length ∧ v28 = .int .i64 i ∧ Aside0 (wr.heap[a]? = some (.cells (nums .i64 (nx9 fs (l.take i))).toArray 177 (0, 0)) ∧ Row wr w.heap.size 3 .i64 (.slice (some ⟨r, 0, none⟩) l.length l.length) (code9 fs (l.take i) ++ List.replicate (l.length - i) 0) ∧ Below w.heap.size w wr)) (fun v28 _ => l.length - (intOf v28).toNat)
  case atStart => exact ⟨0, by omega, rfl, H6.out.1, by simpa [code9] using H6.out.2.1, H6.out.2.2⟩
  case round =>
   clear H6
   obtain ⟨i, hi, rfl, HW⟩ := hrel
   by_cases hlt : i < l.length
   ·have q3 : decide ((i : Int) < (l.length : Int)) = true := decide_eq_true (by omega)
    have q3n : decide (i < l.length) = true := decide_eq_true hlt
    obtain ⟨ad, had, hcell⟩ := ReadsInt.at_ HR.out (i : Int) (by omega) (by omega)
    cases had
    rw [Int.toNat_natCast] at hcell
    have d0 := (HW.out.2.2.cell (World.block_lt_of_cell? w _ hcell)).trans hcell
    obtain ⟨x, hx⟩ : ∃ x, x = rd l (i : Int) := ⟨_, rfl⟩
    rw [← hx] at d0
    have hxl : l.take (i + 1) = l.take i ++ [x] := by
     rw [List.take_succ_eq_append_getElem hlt, hx, rd, Int.toNat_natCast, List.getD_eq_getElem?_getD, List.getElem?_eq_getElem hlt]; rfl
    have hxr : 0 ≤ x ∧ x ≤ 15 := HX.out x (List.mem_of_mem_take (i := i + 1) (by rw [hxl]; simp))
    clear hx hcell
    have HNS : Aside0 (_ ∧ _) := ⟨nx9_snoc (l.take i) fs x, code9_snoc (l.take i) fs x⟩
    rw [← hxl] at HNS
    have hnl := nx9_length (l.take i) fs
    have hnr := nx9_range (l.take i) fs 20971520 HFR.out (by omega)
    have hcl := code9_length (l.take i) fs
    rw [List.length_take] at hnr hcl
    rw [HFL.out] at hnl
    have hrep : l.length - i = (l.length - (i + 1)) + 1 := by omega
    obtain ⟨nx, hnx⟩ : ∃ nx, nx = nx9 fs (l.take i) := ⟨_, rfl⟩
    obtain ⟨cd, hcd⟩ : ∃ cd, cd = code9 fs (l.take i) := ⟨_, rfl⟩
    rw [← hnx] at HNS HW hnl hnr
    rw [← hcd] at HNS HW hcl
    obtain ⟨m, rfl⟩ := Int.eq_ofNat_of_zero_le hxr.1
    by_cases h0 : 0 < m
    ·have q4 : decide (0 < (m : Int)) = true := decide_eq_true (by omega)
     have q4n : decide (0 < m) = true := decide_eq_true h0
     have hm15 : m ≤ 15 := by omega
     rw [if_pos (by omega), if_pos (by omega), Int.toNat_natCast] at HNS
     have hyr := getD_rng9 hnr m (by omega)
     have hy2 := nums_at nx m (by omega)
     obtain ⟨y, hy⟩ : ∃ y, y = nx.getD m 0 := ⟨_, rfl⟩
     rw [← hy] at hyr hy2 HNS
     have d1 : wr.cell? ⟨a, m, none⟩ = some (.int .i64 y) := (blk_cell HW.out.1 m).trans hy2
     have hne : a ≠ r := by have := HNE.out.1; omega
     obtain ⟨e1, e2⟩ := HW.out.2.1.at_ i (by rw [List.length_append, List.length_replicate, hcl]; omega)
     have hb2 : (wr.setCell ⟨r, i, none⟩ (.int .i64 y)).heap[a]? = some (.cells (nums .i64 nx).toArray 177 (0, 0)) := (heap_setCell_other _ _ _ _ hne).trans HW.out.1
     have d3 : (wr.setCell ⟨r, i, none⟩ (.int .i64 y)).cell? ⟨a, m, none⟩ = some (.int .i64 y) := (blk_cell hb2 m).trans hy2
     have d4 := blk_frozen hb2 m
     have HS2 : Aside0 (_ ∧ _ ∧ _) := ⟨hb2, HW.out.2.1.store i y, HW.out.2.2.setCell (p := ⟨r, i, none⟩) (by simp; have := HNE.out; omega) (.int .i64 y)⟩
     clear hxl hnl hnr hy2 hnx hcd hy hb2 hxr
     have HCL := Aside0.mk (And.intro hcl hrep)
     clear hcl hrep
     go_wp2_with fail
     go_roundw
     case rel =>
      refine ⟨i + 1, by omega, by go_num, ⟨?_, ?_, ?_⟩⟩
      ·rw [HNS.out.1]
       refine (blk_set HS2.out.1 m _).trans ?_
       simp [nums, List.map_set]
      ·have h1 := HS2.out.2.1.fr (S := (· = a)) ((Fr.refl _ _).set1 m (.int .i64 (y + 1))) (fun g hg hga => by
        rw [hga] at hg
        exact hne (by simpa [Value.ownBlock] using hg.symm))
       rw [HNS.out.2]
       have e : (cd ++ List.replicate (l.length - i) 0).set i y = cd ++ [y] ++ List.replicate (l.length - (i + 1)) 0 := by
        have hci : cd.length = i := by have := HCL.out.1; omega
        rw [HCL.out.2, List.replicate_succ, List.set_append_right _ _ (by omega), hci, Nat.sub_self]
        simp
       rw [e] at h1
       exact h1
      ·exact HS2.out.2.2.setCell (p := ⟨a, m, none⟩) (by simp; have := HNE.out; omega) _
     case measure => simp [intOf]; omega
    ·have q4 : decide (0 < (m : Int)) = false := decide_eq_false (by omega)
     have q4n : decide (0 < m) = false := decide_eq_false h0
     rw [if_neg (by omega), if_neg (by omega)] at HNS
     have HCL := Aside0.mk hrep
     clear hxl hnl hnr hnx hcd hxr hcl hrep
     go_wp2_with fail
     go_roundw
     case rel =>
      refine ⟨i + 1, by omega, by go_num, ⟨?_, ?_, HW.out.2.2⟩⟩
      ·rw [HNS.out.1]; exact HW.out.1
      ·have h1 := HW.out.2.1
       rw [HCL.out, List.replicate_succ] at h1
       rw [HNS.out.2, List.append_assoc]
       exact h1
     case measure => simp [intOf]; omega
   ·have q3 : decide ((i : Int) < (l.length : Int)) = false := decide_eq_false (by omega)
    have q3n : decide (i < l.length) = false := decide_eq_false hlt
    obtain rfl : i = l.length := by omega
    go_wp2_with fail
    go_returns
    refine ⟨.slice (some ⟨r, 0, none⟩) l.length l.length, ?_, ?_, HW.out.2.2⟩
    ·rw [HM.out]; rfl
    ·have h1 := HW.out.2.1
     rw [List.take_length, Nat.sub_self, List.replicate_zero, List.append_nil, ← HCF.out] at h1
     exact h1
 ·have HM : Aside0 (codesF l = []) := ⟨by unfold codesF; rw [if_neg hm]⟩
  obtain ⟨x, hx⟩ : ∃ x, x = mayF l := ⟨_, rfl⟩
  rw [← hx] at HK hm ⊢
  have q1 : (x != 0) = true := by simpa using hm
  clear hx hm
  go_enter Tryz.func168, Tryz.ntmps168
  go_wp2_with fail
  refine HK.out.mono ?_
  rintro e w1 ⟨rfl, hb1⟩
  go_wp2_with fail
  go_returns
  exact ⟨_, rfl, by rw [HM.out]; exact Row.nil _ _ _ _, hb1⟩
end Go.Proofs.YtghoifkaikddlaaGreat.Hand
namespace Go.Proofs.YtghoifkaikddlaaGreat.Hand
open Go.RowKit Go.Proofs.YtghoifkaikddlaaGreatW.PrintWords Go.Proofs.YtghoifkaikddlaaGreatW.PrintLast Go.Proofs.YtghoifkaikddlaaGreatW.PrintMore Go.Proofs.YtghoifkaikddlaaGreat.Num Go.Proofs.YtghoifkaikddlaaGreat.Bits
set_option linter.unusedVariables false
set_option linter.unusedSimpArgs false
structure TreeAt (w : World) (B tb : Nat) (ls cs many syms : List Int) (lg : Int) : Prop where
 open_ : ∃ vl vc vs, w.heap[tb]? = some (.cells (vl :: vc :: (nums .i64 many ++ [vs, .int .i64 lg])).toArray 179 (0, 0)) ∧ Row w B 3 .i64 vl ls ∧ Row w B 3 .i64 vc cs ∧ Row w B 3 .i64 vs syms
 ml : many.length = 16
def revB (c : Int) : Nat → List Int
 | 0 => []
 | n + 1 => (c / 2 ^ n % 2) :: revB c n
structure OtherT (t : TypeId) : Prop where
 u8 : 5 ≠ t
 int : 3 ≠ t
 tree : 179 ≠ t
theorem TreeAt.ne {w : World} {B tb g : Nat} {ls cs many syms : List Int} {lg : Int} {t : TypeId} {post : List Value} {L : List Int} (hT : TreeAt w B tb ls cs many syms lg) (hW : WrAt w B g t post L) (ht : OtherT t := by exact ⟨by decide, by decide, by decide⟩) : ¬ SU B g w tb := by
 obtain ⟨vl, vc, vs, hb, _⟩ := hT.open_
 obtain ⟨x, m, u, xs, q1, _⟩ := hW.open_
 rintro (rfl | ⟨_, c2, fr, h2⟩)
 ·rw [hb] at q1; injection q1 with q1; injection q1 with _ q1; exact absurd q1 ht.tree
 ·rw [hb] at h2; injection h2 with h2; injection h2 with _ h2; exact absurd h2 (by decide)
theorem row_su {w : World} {B g : Nat} {v : Value} {xs : List Int} {t : TypeId} {post : List Value} {L : List Int} (h : Row w B 3 .i64 v xs) (hW : WrAt w B g t post L) (ht : OtherT t := by exact ⟨by decide, by decide, by decide⟩) : ∀ j, v.ownBlock = some j → ¬ SU B g w j := by
 obtain ⟨x, m, u, ys, q1, _⟩ := hW.open_
 intro j hj hs
 rcases hs with rfl | ⟨_, c2, fr, h2⟩
 ·exact h.ne_blk q1 ht.int j hj rfl
 ·exact h.ne_blk h2 (by decide) j hj rfl
theorem and_one {x : Int} (h0 : 0 ≤ x) (h : x < 2 ^ 62) : bits .and .i64 x 1 = x % 2 := by
 have := and_mask (k := 1) h0 h (by omega)
 simpa using this
theorem TreeAt.fr {w w1 : World} {B tb g : Nat} {ls cs many syms : List Int} {lg : Int} {t : TypeId} {post : List Value} {L : List Int} (hT : TreeAt w B tb ls cs many syms lg) (hW : WrAt w B g t post L) (hf : Fr w w1 (SU B g w)) (ht : OtherT t := by exact ⟨by decide, by decide, by decide⟩) : TreeAt w1 B tb ls cs many syms lg := by
 have hne := hT.ne hW ht
 obtain ⟨⟨vl, vc, vs, hb, h1, h2, h3⟩, hm⟩ := hT
 exact ⟨⟨vl, vc, vs, hf.blk hb hne, h1.fr hf (row_su h1 hW ht), h2.fr hf (row_su h2 hW ht), h3.fr hf (row_su h3 hW ht)⟩, hm⟩
set_option maxRecDepth 100000 in
set_option maxHeartbeats 4000000 in
theorem write_ok (w : World) (B tb g : Nat) (ls cs many syms : List Int) (lg : Int) (m n : Nat) {t : TypeId} {post : List Value} (L : List Int) (hT : TreeAt w B tb ls cs many syms lg) (hW : WrAt w B g t post L) (hB : B ≤ w.heap.size)
  (hm : m < ls.length) (hmc : m < cs.length) (hn : ls.getD m 0 = (n : Int)) (hn0 : n ≠ 0) (hn15 : n ≤ 15) (hc0 : 0 ≤ cs.getD m 0) (hc1 : cs.getD m 0 ≤ 40000000) (hL : L.length ≤ 10000000) (ht : OtherT t := by exact ⟨by decide, by decide, by decide⟩) :
  Calls Tryz.prog 127 #[.pointer (some ⟨tb, 0, none⟩), .pointer (some ⟨g, 0, none⟩), .int .i64 (m : Int)] w fun e w' => e = .returned (.int .i64 0) ∧ WrAt w' B g t post (L ++ revB (cs.getD m 0) n) ∧ Fr w w' (SU B g w) := by
 have q2 : decide ((ls.length : Int) ≤ (m : Int)) = false := decide_eq_false (by omega)
 have q2n : decide (ls.length ≤ m) = false := decide_eq_false (by omega)
 have hT0 := hT
 obtain ⟨vl, vc, vs, hb, h1, h2, h3⟩ := hT0.open_
 obtain ⟨A1, k1, rfl, hrd1⟩ := h1.reads
 obtain ⟨A2, k2, rfl, hrd2⟩ := h2.reads
 obtain ⟨ad, rfl, hcell⟩ := ReadsInt.at_ hrd1 (m : Int) (by omega) (by omega)
 rw [Int.toNat_natCast, rd, Int.toNat_natCast, hn] at hcell
 obtain ⟨ac, rfl, hcell2⟩ := ReadsInt.at_ hrd2 (m : Int) (by omega) (by omega)
 rw [Int.toNat_natCast, rd, Int.toNat_natCast] at hcell2
 obtain ⟨cc, hcc⟩ : ∃ cc, cc = cs.getD m 0 := ⟨_, rfl⟩
 rw [← hcc] at hcell2 hc0 hc1 ⊢
 have c0 : w.cell? ⟨tb, 0, none⟩ = some (.slice (some ad) ls.length k1) := blk_cell hb 0
 have c1 : w.cell? ⟨tb, 1, none⟩ = some (.slice (some ac) cs.length k2) := blk_cell hb 1
 have hz : ((n : Int) == 0) = false := beq_eq_false_iff_ne.2 (by omega)
 have HK : Aside0 (∀ W, Fr w W (SU B g w) → W.cell? ⟨tb, 1, none⟩ = some (.slice (some ac) cs.length k2) ∧ W.cell? (ac.add m) = some (.int .i64 cc)) := ⟨fun W hf => ⟨hf.cell c1 (hT.ne hW ht), hf.cell hcell2 (fun hs => row_su h2 hW ht _ (by rfl) (by rwa [show (ac.add m).block = ac.block by unfold Addr.add; split <;> rfl] at hs))⟩⟩
 have HW := Aside0.mk hW
 have HL : Aside0 (_ ∧ _) := ⟨hL, hB⟩
 clear hT hT0 hW hb h1 h2 h3 hrd1 hrd2 hn hL hB hcc c1 hcell2
 go_enter Tryz.func127, Tryz.ntmps127
 go_wp2_with fail
 go_loopw [7] (fun v7 wr => ∃ (i : Nat) (Lw : List Int), i ≤ n ∧ v7 = .int .i64 ((i : Int) - 1) ∧ Lw.length ≤ 10000000 + 16 ∧ Aside0 (WrAt wr B g t post Lw ∧ Lw ++ revB cc i = L ++ revB cc n ∧ Fr w wr (SU B g w))) (fun v7 _ => (intOf v7 + 1).toNat)
 case atStart => exact ⟨n, L, by omega, rfl, by have := HL.out.1; omega, HW.out, rfl, Fr.refl _ _⟩
 case round =>
  obtain ⟨i, Lw, hi, rfl, hLw, HR⟩ := hrel
  by_cases hlt : 0 < i
  ·obtain ⟨j, hj⟩ : ∃ j, i = j + 1 := ⟨i - 1, by omega⟩
   have hij : (i : Int) - 1 = (j : Int) := by omega
   obtain ⟨d1, d2⟩ := HK.out wr HR.out.2.2
   have hx0 : 0 ≤ cc / 2 ^ j := Int.ediv_nonneg hc0 (Int.le_of_lt (pow_pos' j))
   have hx1 : cc / 2 ^ j ≤ cc := Int.ediv_le_self _ hc0
   have hand := and_one hx0 (by omega)
   have q5 : decide (0 ≤ (j : Int)) = true := decide_eq_true (by omega)
   have hb2 := Int.emod_nonneg (cc / 2 ^ j) (show (2 : Int) ≠ 0 by decide)
   have hb3 := Int.emod_lt_of_pos (cc / 2 ^ j) (show (0 : Int) < 2 by decide)
   have HP := wr_put wr B g t post Lw (cc / 2 ^ j % 2) 1 HR.out.1 ht.u8 hb2 (by simpa using hb3) (by omega) (by omega) (Nat.le_trans HL.out.2 HR.out.2.2.size)
   rw [show ((1 : Nat) : Int) = 1 from rfl] at HP
   have HPP := Aside0.mk HP
   have hlen : Lw.length ≤ L.length + n := by
    have h := congrArg List.length HR.out.2.1
    have hr : ∀ q, (revB cc q).length = q := fun q => by induction q with
     | zero => rfl
     | succ q ih => rw [revB, List.length_cons, ih]
    rw [List.length_append, List.length_append, hr, hr] at h
    omega
   have hlen2 : Lw.length + i = L.length + n := by
    have h := congrArg List.length HR.out.2.1
    have hr : ∀ q, (revB cc q).length = q := fun q => by induction q with
     | zero => rfl
     | succ q ih => rw [revB, List.length_cons, ih]
    rw [List.length_append, List.length_append, hr, hr] at h
    omega
   have HLL := Aside0.mk hlen2
   clear c0 hcell HP hx0 hx1 hb2 hb3 hlen hlen2
   go_wp2_with fail
   refine HPP.out.mono ?_
   rintro e w2 ⟨rfl, hw2, hf2⟩
   have H2 : Aside0 (_ ∧ _) := ⟨hw2, HR.out.2.2.su hf2⟩
   clear hw2 hf2
   go_wp2_with fail
   go_roundw
   case rel =>
    refine ⟨j, Lw ++ bitsN (cc / 2 ^ j % 2) 1, by omega, by go_num, ?_, H2.out.1, ?_, H2.out.2⟩
    ·have := HLL.out; have := HL.out.1; rw [List.length_append, bitsN_length]; omega
    ·have h := HR.out.2.1
     rw [hj, revB] at h
     rw [← h, List.append_assoc]
     congr 1
     show (cc / 2 ^ j % 2 % 2) :: revB cc j = _
     rw [Int.emod_emod_of_dvd _ (Int.dvd_refl 2)]
   case measure => simp [intOf]; omega
  ·obtain rfl : i = 0 := by omega
   have q5 : decide (0 ≤ ((0 : Nat) : Int) - 1) = false := by decide
   go_wp2_with fail
   go_returns
   have h := HR.out.2.1
   rw [revB, List.append_nil] at h
   exact ⟨rfl, by rw [← h]; exact HR.out.1, HR.out.2.2⟩
end Go.Proofs.YtghoifkaikddlaaGreat.Hand
namespace Go.Proofs.YtghoifkaikddlaaGreat.Hand
open Go.RowKit Go.Proofs.YtghoifkaikddlaaGreatW.PrintWords Go.Proofs.YtghoifkaikddlaaGreatW.PrintLast Go.Proofs.YtghoifkaikddlaaGreatW.PrintMore Go.Proofs.YtghoifkaikddlaaGreat.Num Go.Proofs.YtghoifkaikddlaaGreat.Bits
set_option linter.unusedVariables false
set_option linter.unusedSimpArgs false
def rdT (s : ByteArray) (many syms : List Int) (lg : Nat) : Nat → Nat → Int → Int → Int → Nat → Int × Int × Nat
 | 0, _, _, _, _, p => (0, 4, p)
 | d + 1, n, code, first, at_, p =>
  if n ≤ lg then
   if p + 1 ≤ 8 * s.size then
    if many.getD n 0 ≤ 2 * code + val s p 1 - first * 2 then rdT s many syms lg d (n + 1) (2 * code + val s p 1) (first * 2 + many.getD n 0) (at_ + many.getD n 0) (p + 1)
    else (syms.getD (at_ + (2 * code + val s p 1) - first * 2).toNat 0, 0, p + 1)
   else (0, 5, p)
  else (0, 4, p)
def sumM (many : List Int) : Nat → Int
 | 0 => 0
 | 1 => 0
 | n + 2 => sumM many (n + 1) + many.getD (n + 1) 0
theorem sumM_succ (many : List Int) (n : Nat) (h : 1 ≤ n) : sumM many (n + 1) = sumM many n + many.getD n 0 := by
 obtain ⟨m, rfl⟩ : ∃ m, n = m + 1 := ⟨n - 1, by omega⟩
 rfl
theorem TreeAt.neR {w : World} {B tb g : Nat} {ls cs many syms : List Int} {lg : Int} {s : ByteArray} {p : Nat} (hT : TreeAt w B tb ls cs many syms lg) (hR : RdAt w g s p) : tb ≠ g := by
 obtain ⟨vl, vc, vs, hb, _⟩ := hT.open_
 obtain ⟨x, m, a, q1, _⟩ := hR.open_
 rintro rfl
 rw [hb] at q1; injection q1 with q1; injection q1 with _ q1; exact absurd q1 (by decide)
theorem TreeAt.rowR {w : World} {B g : Nat} {v : Value} {xs : List Int} {s : ByteArray} {p : Nat} (h : Row w B 3 .i64 v xs) (hR : RdAt w g s p) : ∀ j, v.ownBlock = some j → j ≠ g := by
 obtain ⟨x, m, a, q1, _⟩ := hR.open_
 exact h.ne_blk q1 (by decide)
theorem TreeAt.frR {w w1 : World} {B tb g : Nat} {ls cs many syms : List Int} {lg : Int} {s : ByteArray} {p : Nat} (hT : TreeAt w B tb ls cs many syms lg) (hR : RdAt w g s p) (hf : Fr w w1 (· = g)) : TreeAt w1 B tb ls cs many syms lg := by
 have hne := hT.neR hR
 obtain ⟨⟨vl, vc, vs, hb, h1, h2, h3⟩, hm⟩ := hT
 exact ⟨⟨vl, vc, vs, hf.blk hb hne, h1.fr hf (TreeAt.rowR h1 hR), h2.fr hf (TreeAt.rowR h2 hR), h3.fr hf (TreeAt.rowR h3 hR)⟩, hm⟩
theorem TreeAt.cells {w : World} {B tb : Nat} {ls cs many syms : List Int} {lg : Int} (hT : TreeAt w B tb ls cs many syms lg) : w.cell? ⟨tb, 19, none⟩ = some (.int .i64 lg) ∧ (∀ n, n < 16 → w.cell? ⟨tb, 2 + n, none⟩ = some (.int .i64 (many.getD n 0))) ∧
  ∃ A c, w.cell? ⟨tb, 18, none⟩ = some (.slice A syms.length c) ∧ ReadsInt w .i64 A syms.length syms := by
 obtain ⟨⟨vl, vc, vs, hb, h1, h2, h3⟩, hm⟩ := hT
 have hl : (nums .i64 many).length = 16 := by rw [nums_length]; exact hm
 obtain ⟨A3, k3, rfl, hrd⟩ := h3.reads
 refine ⟨(blk_cell hb 19).trans ?_, fun n hn => (blk_cell hb (2 + n)).trans ?_, A3, k3, (blk_cell hb 18).trans ?_, hrd⟩
 ·simp [List.getElem?_append, hl]
 ·have h := nums_at many n (by omega)
  rw [show 2 + n = n + 2 by omega]
  simp only [List.getElem?_toArray, List.getElem?_cons_succ] at h ⊢
  rw [List.getElem?_append_left (by omega)]
  exact h
 ·simp [List.getElem?_append, hl]
set_option maxRecDepth 100000 in
set_option maxHeartbeats 4000000 in
theorem read_calls (w : World) (B tb g : Nat) (ls cs many syms : List Int) (lg : Nat) (s : ByteArray) (p : Nat) (hT : TreeAt w B tb ls cs many syms lg) (hR : RdAt w g s p) (hs : s.size ≤ 1000000) (hlg : lg ≤ 15)
  (hm : ∀ x ∈ many, 0 ≤ x ∧ x ≤ 320) (hS : ∀ n, n ≤ lg → sumM many (n + 1) ≤ syms.length) (hS2 : syms.length ≤ 320) :
  Calls Tryz.prog 180 #[.pointer (some ⟨tb, 0, none⟩), .pointer (some ⟨g, 0, none⟩)] w fun e w' =>
   e = .returned (.tuple #[.int .i64 (rdT s many syms lg 16 1 0 0 0 p).1, .int .i64 (rdT s many syms lg 16 1 0 0 0 p).2.1]) ∧ RdAt w' g s (rdT s many syms lg 16 1 0 0 0 p).2.2 ∧ Fr w w' (· = g) := by
 obtain ⟨res, hres⟩ : ∃ res, res = rdT s many syms lg 16 1 0 0 0 p := ⟨_, rfl⟩
 rw [← hres]
 have H0 : Aside0 (_ ∧ _ ∧ _ ∧ _) := ⟨hT, hR, hm, hS⟩
 have HE := Aside0.mk hres
 have hml := hT.ml
 clear hT hR hm hS hres
 go_enter Tryz.func180, Tryz.ntmps180
 go_wp2_with fail
 refine wp_scope_straight ?_
 go_wp2_with fail
 refine wp_label ?_
 go_wp2_with fail
 go_loopw [6, 7, 8, 9] (fun v6 v7 v8 v9 wr => ∃ (n q d : Nat) (code first at_ : Int), v6 = .int .i64 code ∧ v7 = .int .i64 first ∧ v8 = .int .i64 at_ ∧ v9 = .int .i64 n ∧ 1 ≤ n ∧ n ≤ lg + 1 ∧ d + n = 17 ∧ 0 ≤ first ∧ first ≤ code ∧ Aside0 (code + 1 ≤ 2 ^ n) ∧ Aside0 (at_ = sumM many n) ∧ 0 ≤ at_ ∧ at_ ≤ 320 ∧
  Aside0 (res = rdT s many syms lg d n code first at_ q ∧ RdAt wr g s q ∧ Fr w wr (· = g))) (fun _ _ _ v9 _ => 17 - (intOf v9).toNat)
 case atStart => exact ⟨1, p, 16, 0, 0, 0, rfl, rfl, rfl, rfl, by omega, by omega, by omega, by omega, by omega, ⟨by decide⟩, ⟨rfl⟩, by omega, by omega, ⟨HE.out, H0.out.2.1, Fr.refl _ _⟩⟩
 case round =>
  obtain ⟨n, q, d, code, first, at_, rfl, rfl, rfl, rfl, hn1, hn2, hd, hf0, hfc, HC, HA, ha0, ha1, HR⟩ := hrel
  obtain ⟨d', rfl⟩ : ∃ d', d = d' + 1 := ⟨d - 1, by omega⟩
  have hTr := H0.out.1.frR H0.out.2.1 HR.out.2.2
  obtain ⟨c19, cm, A3, k3, c18, hrd⟩ := hTr.cells
  have hrec := HR.out.1
  rw [rdT] at hrec
  by_cases hlt : n ≤ lg
  ·have q1 : decide ((n : Int) ≤ (lg : Int)) = true := decide_eq_true (by omega)
   have q1n : decide (n ≤ lg) = true := decide_eq_true hlt
   rw [if_pos hlt] at hrec
   by_cases hp : q + 1 ≤ 8 * s.size
   ·rw [if_pos hp] at hrec
    have HG := rd_get wr g s q 1 HR.out.2.1 (by omega) (by omega) hp
    have hv := val_range s q 1
    rw [show ((1 : Nat) : Int) = 1 from rfl] at HG
    have HGG := Aside0.mk HG
    obtain ⟨b, hb⟩ : ∃ b, b = val s q 1 := ⟨_, rfl⟩
    rw [← hb] at HGG hrec hv
    have hv2 : 0 ≤ b ∧ b ≤ 1 := by have := hv.1; have h2 := hv.2; simp at h2; omega
    have HREC := Aside0.mk hrec
    have HTR := Aside0.mk hTr
    have hM := getD_rng9 H0.out.2.2.1 n (by omega)
    have hMS : at_ + many.getD n 0 ≤ 320 ∧ at_ + many.getD n 0 ≤ syms.length := by
     have h := H0.out.2.2.2 n hlt
     rw [sumM_succ many n hn1, ← HA.out] at h
     omega
    have hC := HC.out
    have hp2 : (2 : Int) ^ n ≤ 2 ^ 15 := pow_le (by omega)
    have hcs : code ≤ 32768 := by omega
    obtain ⟨M, hMe⟩ : ∃ M, M = many.getD n 0 := ⟨_, rfl⟩
    rw [← hMe] at hM hMS HREC
    have HME := Aside0.mk hMe
    clear cm c18 hrd hrec hTr hv hb HG hC hp2 hMe
    go_wp2_with fail
    refine HGG.out.mono ?_
    rintro e w2 ⟨rfl, hr2, hf2⟩
    have HR2 : Aside0 (_ ∧ _) := ⟨hr2, HR.out.2.2.then_ hf2⟩
    have hTr2 := H0.out.1.frR H0.out.2.1 HR2.out.2
    obtain ⟨_, cm, A3, k3, c18, hrd⟩ := hTr2.cells
    have d1 := cm n (by omega)
    rw [← HME.out] at d1
    clear hr2 hf2 cm c19 hTr2 HGG
    by_cases hge : M ≤ 2 * code + b - first * 2
    ·have q2 : decide (M ≤ 2 * code + b - first * 2) = true := decide_eq_true hge
     have HREC2 := HREC.out
     rw [if_pos hge] at HREC2
     have HRC := Aside0.mk HREC2
     clear hrd c18 HREC2 HREC
     go_wp2_with fail
     go_roundw
     case rel =>
      refine ⟨n + 1, q + 1, d', 2 * code + b, first * 2 + M, at_ + M, rfl, rfl, rfl, by go_num, by omega, by omega, by omega, by omega, by omega, ⟨?_⟩, ⟨?_⟩, by omega, by omega, ⟨HRC.out, HR2.out.1, HR2.out.2⟩⟩
      ·have := HC.out; rw [Int.pow_succ']; omega
      ·rw [sumM_succ many n hn1, ← HA.out, HME.out]
     case measure => simp [intOf]; omega
    ·have q2 : decide (M ≤ 2 * code + b - first * 2) = false := decide_eq_false hge
     have HREC2 := HREC.out
     rw [if_neg hge] at HREC2
     obtain ⟨ix, hix⟩ := Int.eq_ofNat_of_zero_le (show 0 ≤ at_ + (2 * code + b) - first * 2 by omega)
     rw [hix, Int.toNat_natCast] at HREC2
     obtain ⟨ad, rfl, hcell⟩ := ReadsInt.at_ hrd (ix : Int) (by omega) (by omega)
     rw [Int.toNat_natCast, rd, Int.toNat_natCast] at hcell
     obtain ⟨y, hy⟩ : ∃ y, y = syms.getD ix 0 := ⟨_, rfl⟩
     rw [← hy] at hcell HREC2
     have HRC := Aside0.mk HREC2
     have hixl : ix < syms.length := by omega
     clear hrd HREC2 HREC hy
     go_wp2_with fail
     repeat (rw [Exit.noGoto_ret])
     go_returns
     exact ⟨by rw [HRC.out]; rfl, by rw [HRC.out]; exact HR2.out.1, HR2.out.2⟩
   ·rw [if_neg hp] at hrec
    have HG := rd_get_short wr g s q 1 HR.out.2.1 (by omega) (by omega) (by omega)
    rw [show ((1 : Nat) : Int) = 1 from rfl] at HG
    have HGG := Aside0.mk HG
    clear HG cm c18 hrd hTr
    go_wp2_with fail
    refine HGG.out.mono ?_
    rintro e w2 ⟨rfl, hd2⟩
    go_wp2_with fail
    repeat (rw [Exit.noGoto_ret])
    go_returns
    exact ⟨by rw [hrec]; rfl, by rw [hrec]; exact HR.out.2.1.drawn hd2, HR.out.2.2.then_ (Fr.of_drawn hd2 _)⟩
  ·have q1 : decide ((n : Int) ≤ (lg : Int)) = false := decide_eq_false (by omega)
   have q1n : decide (n ≤ lg) = false := decide_eq_false hlt
   rw [if_neg hlt] at hrec
   go_wp2_with fail
   repeat (rw [Exit.noGoto_ret])
   go_returns
   exact ⟨by rw [hrec]; rfl, by rw [hrec]; exact HR.out.2.1, HR.out.2.2⟩
end Go.Proofs.YtghoifkaikddlaaGreat.Hand
namespace Go.Proofs.YtghoifkaikddlaaGreat.Hand
open Go.RowKit Go.Proofs.YtghoifkaikddlaaGreatW.PrintWords Go.Proofs.YtghoifkaikddlaaGreatW.PrintLast Go.Proofs.YtghoifkaikddlaaGreatW.PrintMore Go.Proofs.YtghoifkaikddlaaGreat.Num
set_option linter.unusedVariables false
set_option linter.unusedSimpArgs false
def symP (l : List Int) (n i : Nat) : List Int := ((List.range i).filter (fun j => l.getD j 0 == (n : Int))).map (fun j : Nat => (j : Int))
def symA (l : List Int) : Nat → List Int
 | 0 => []
 | 1 => []
 | n + 2 => symA l (n + 1) ++ symP l (n + 1) l.length
def lgP (lg : Int) (l : List Int) (n i : Nat) : Int := if symP l n i = [] then lg else n
def lgA (l : List Int) : Nat → Int
 | 0 => 0
 | 1 => 0
 | n + 2 => lgP (lgA l (n + 1)) l (n + 1) l.length
theorem symP_succ (l : List Int) (n i : Nat) : symP l n (i + 1) = if l.getD i 0 = (n : Int) then symP l n i ++ [(i : Int)] else symP l n i := by
 unfold symP
 rw [List.range_succ, List.filter_append, List.map_append]
 by_cases h : l.getD i 0 = (n : Int)
 ·rw [if_pos h, List.filter_cons_of_pos (by simpa using h)]; rfl
 ·rw [if_neg h, List.filter_cons_of_neg (by simpa using h)]; simp
theorem symP_length (l : List Int) (n i : Nat) : (symP l n i).length ≤ i := by
 unfold symP
 rw [List.length_map]
 exact Nat.le_trans (List.length_filter_le _ _) (by simp)
theorem symA_length (l : List Int) : ∀ n, (symA l n).length ≤ n * l.length
 | 0 => by simp [symA]
 | 1 => by simp [symA]
 | n + 2 => by
  have h := symA_length l (n + 1)
  have h2 := symP_length l (n + 1) l.length
  rw [symA, List.length_append, Nat.add_mul (n + 1) 1, Nat.one_mul]
  omega
theorem run_append_none' {P : Program} {w : World} (base : Nat) (t ty e : TypeId) (i : TypeInfo) (size c : Nat) (ht : P.underlying t = some (.slice e)) (hi : P.info? e = some i)
  (v : Value) (n : Nat) (xs : List Value) (hown : w.ownsRow base e size v n xs) :
  (Builtin.append_ #[t, t] ty #[v, .slice none 0 c]).run P w = .ok v w := by
 rcases hown.2 with ⟨rfl, rfl⟩ | ⟨g, cap, cur, rfl, _, _, hnc, _⟩
 ·simp [Builtin.append_, run_underlying ht, sizeOf, typeInfo, hi, Builtin.lenOf, Builtin.firstCells]
 ·simp [Builtin.append_, run_underlying ht, sizeOf, typeInfo, hi, Builtin.lenOf, Builtin.firstCells, hnc, storeCells]
theorem app_stepR {P : Program} {o : Oper} {a : Act} {ops : Array Oper} {W : World} {K : Act → World → Prop} {Q : Exit → Act → World → Prop} {E : Prop} (B : Nat) (hgd : o.guard = none) (s x : Operand) (t e : TypeId) (k : IntKind) (bytes : Nat)
  (ho : o.op = .call { callee := .builtin .append, args := #[s, x], argTypes := #[t, t] })
  (ht : P.underlying t = some (.slice e)) (hinfo : (P.info? e).map (fun i => (i.zero, i.size, i.bytes)) = some (some (.int k 0), 1, bytes))
  (v : Value) (xs ys : List Int) (hs : a.eval s = v) (A : Option Addr) (m c : Nat) (hx : a.eval x = .slice A m c) (hm : ys.length = m) (hno : A = none → ys = [])
  (hnews : ∀ ad, A = some ad → ∀ j u, (nums k ys)[j]? = some u → W.cell? (ad.add j) = some u) (HO : Row W B e k v xs) (hB : B ≤ W.heap.size) (h63 : xs.length + m ≤ maxLen) (hl : (xs.length + m) * bytes ≤ 140737488355328)
  (h : ∀ v1 w1, App W w1 B e k v v1 (xs ++ ys) → K (a.put o.dst v1) w1) :
  if Region.wanted o (yielded ops a.tmps) = true then Oper.wp P o a W K Q else E := by
 cases A with
 | some ad => exact app_step B hgd s x t e k bytes ho ht hinfo v xs ys hs ad m c hx hm (hnews ad rfl) HO hB h63 hl h
 | none =>
  obtain rfl := hno rfl
  obtain rfl : 0 = m := hm
  have hw : Region.wanted o (yielded ops a.tmps) = true := by simp [Region.wanted, hgd]
  obtain ⟨i0, hi, hzz⟩ := Option.map_eq_some_iff.1 hinfo
  rw [if_pos hw]
  have hr := run_append_none' (P := P) (w := W) B t o.type e i0 1 c ht hi v xs.length (nums k xs) HO
  unfold Oper.wp execOp
  simp only [ho, resolve, invoke, builtin, Sem.run_bind, Sem.run_pure, Result.andThen_ok, List.map_toArray, List.map_cons, List.map_nil, hs, hx, hr]
  exact h v W ⟨by rw [List.append_nil]; exact HO, World.grownBy.refl _ _⟩
set_option maxRecDepth 100000 in
set_option maxHeartbeats 4000000 in
theorem new_ok (A : Option Addr) (c : Nat) (l : List Int) (w : World) (hr : ReadsInt w .i64 A l.length l) (hc : l.length ≤ c) (hm : mayF l = 0) :
  Calls Tryz.prog 150 #[.slice A l.length c] w fun e w' => ∃ tb, e = .returned (.tuple #[.pointer (some ⟨tb, 0, none⟩), .int .i64 0]) ∧ TreeAt w' w.heap.size tb l (codesF l) (cntL l) (symA l 16) (lgA l 16) ∧ w.heap.size ≤ tb ∧ Below w.heap.size w w' := by
 have HK := Aside0.mk (codes_calls A c l w hr hc)
 rw [hm] at HK
 have HR := Aside0.mk hr
 obtain ⟨hl, hx⟩ := may_zero hm
 have HX := Aside0.mk hx
 clear hr hm hx
 go_enter Tryz.func150, Tryz.ntmps150
 go_wp2_with fail
 refine HK.out.mono ?_
 rintro e w1 ⟨v, rfl, hr1, hb1⟩
 have HB1 := Aside0.mk hb1
 have HR1 := Aside0.mk (HR.out.below hb1)
 have HC1 := Aside0.mk hr1
 clear hb1 HK hr1
 go_wp2_with fail
 refine (counted_calls A l.length c l w1 rfl HR1.out hc).mono ?_
 rintro e w2 ⟨rfl, hb2⟩
 have HB2 := Aside0.mk (HB1.out.trans (hb2.mono HB1.out.size))
 have HR2 := Aside0.mk (HR1.out.below hb2)
 have HC2 := Aside0.mk (HC1.out.below hb2)
 have HL := Aside0.mk (cntL_length l)
 have HI := Aside0.mk (show (nums .i64 (cntL l)).length = 16 by rw [nums_length]; exact cntL_length l)
 obtain ⟨cs, hcs⟩ : ∃ cs, cs = cntL l := ⟨_, rfl⟩
 obtain ⟨ce, hce⟩ : ∃ ce, ce = cntE l := ⟨_, rfl⟩
 rw [← hcs] at HL HI
 rw [← hcs, ← hce]
 clear hb2 HB1 HR1 HC1 hce
 have HCS := Aside0.mk hcs
 clear hcs
 go_wp2_with (refine wpList_store_mid rfl 177 _ _ rfl w2.heap.size 0 (nums .i64 cs).toArray rfl rfl (arr_there (cs := nums .i64 zeros) (t := 177) (heap_alloc_new w2 _) _ (by rw [List.size_toArray, HI.out]; rfl)) (by rw [infoArr]; simpa using HI.out.symm) (all_oneCell_toArray (nums_one _ _)) ?_)
 generalize hW : (w2.alloc (.cells #[.int .i64 0, .int .i64 0, .int .i64 0, .int .i64 0, .int .i64 0, .int .i64 0, .int .i64 0, .int .i64 0, .int .i64 0, .int .i64 0, .int .i64 0, .int .i64 0, .int .i64 0, .int .i64 0, .int .i64 0, .int .i64 0] 177)).setCells w2.heap.size 0 (nums .i64 cs) = W3
 have hA : W3.heap[w2.heap.size]? = some (.cells (nums .i64 cs).toArray 177 (0, 0)) := by
  rw [← hW]; exact setCells_blk (cs := nums .i64 zeros) (heap_alloc_new w2 _) (by rw [HI.out]; rfl)
 have hB23 : Below w2.heap.size w2 W3 := by
  rw [← hW]
  exact ((Below.refl _ _).alloc (Nat.le_refl _) _).trans ((setCells_fr w2.heap.size (nums .i64 cs) 0 _).below (by rintro k rfl; exact Nat.le_refl _) (by simp))
 have HR3 := Aside0.mk (HR2.out.below hB23)
 have HC3 := Aside0.mk (HC2.out.below hB23)
 have HB3 := Aside0.mk (HB2.out.trans (hB23.mono HB2.out.size))
 have HA3 := Aside0.mk hA
 obtain ⟨b, hb⟩ : ∃ b, b = w2.heap.size := ⟨_, rfl⟩
 rw [← hb] at HA3 ⊢
 have r0 : W3.rangeAt b 0 (nums .i64 cs) := arr_range HA3.out
 have hu := Tryz.underlying177
 have hi : (Tryz.prog.info? 177).map (·.size) = some (nums .i64 cs).length := by rw [infoArr, HI.out]
 clear hW hA hB23 HB2 HC2 HR2 hb
 obtain ⟨Av, nv, mv, hv, hnv⟩ := HC3.out.shape
 subst hv
 have hbl := blk_lt HA3.out
 have HBL := Aside0.mk hbl
 clear hbl
 have hnone : A = none → l = [] := fun h => by
  cases l with
  | nil => rfl
  | cons z zs =>
   obtain ⟨ad, he, _⟩ := ReadsInt.at_ HR3.out ((0 : Nat) : Int) (by omega) (by simp)
   rw [h] at he
   cases he
 have hnews : ∀ (W : World), ReadsInt W .i64 A l.length l → ∀ ad, A = some ad → ∀ j u, (nums .i64 l)[j]? = some u → W.cell? (ad.add j) = some u := fun W h ad hA => by
  subst hA
  intro j u hj
  have hjl : j < l.length := by have h := (List.getElem?_eq_some_iff.1 hj).1; rwa [nums_length] at h
  obtain ⟨ad2, he, hc2⟩ := ReadsInt.at_ h (j : Int) (by omega) (by omega)
  cases he
  rw [Int.toNat_natCast] at hc2
  rw [hc2, ← hj]
  simp [nums, rd, hjl]
 have HN := Aside0.mk hnews
 have HNO := Aside0.mk hnone
 clear hnone
 clear hnews
 have hOE : Row (W3.alloc (.cells #[] 3)) w.heap.size 3 .i64 (.slice (some ⟨W3.heap.size, 0, none⟩) 0 0) [] := Row.empty W3 w.heap.size 3 .i64 HB3.out.size
 have HNW := Aside0.mk (HN.out _ (HR3.out.below (below_alloc (Below.refl _ _) (.cells #[] 3))))
 have hB1 : w.heap.size ≤ (W3.alloc (.cells #[] 3)).heap.size := by simp; have := HB3.out.size; omega
 have hB13 : W3.heap.size ≤ (W3.alloc (.cells #[] 3)).heap.size := by simp
 have hl1 : ([] : List Int).length + l.length ≤ maxLen := by unfold maxLen; simp; omega
 have hl2 : (([] : List Int).length + l.length) * 8 ≤ 140737488355328 := by simp; omega
 have hRA : ∀ v1 w4, App (W3.alloc (.cells #[] 3)).drew w4 w.heap.size 3 .i64 (.slice (some ⟨W3.heap.size, 0, none⟩) 0 0) v1 ([] ++ l) → w4.heap[b]? = some (.cells (nums .i64 cs).toArray 177 (0, 0)) := fun v1 w4 hap => blk_grown (w := (W3.alloc (.cells #[] 3)).drew) (show (W3.alloc (.cells #[] 3)).drew.heap[b]? = _ from blk_alloc HA3.out _) hap.grown (by have := HBL.out; simp [Value.ownBlock]; omega)
 have r1 : (W3.alloc (.cells #[] 3)).rangeAt b 0 (nums .i64 cs) := arr_range (blk_alloc HA3.out _)
 obtain ⟨x0, x1, x2, x3, x4, x5, x6, x7, x8, x9, x10, x11, x12, x13, x14, x15, hcx⟩ : ∃ x0 x1 x2 x3 x4 x5 x6 x7 x8 x9 x10 x11 x12 x13 x14 x15, cs = [x0, x1, x2, x3, x4, x5, x6, x7, x8, x9, x10, x11, x12, x13, x14, x15] := by
  match cs, HL.out with
  | [x0, x1, x2, x3, x4, x5, x6, x7, x8, x9, x10, x11, x12, x13, x14, x15], _ => exact ⟨_, _, _, _, _, _, _, _, _, _, _, _, _, _, _, _, rfl⟩
 have HCX := Aside0.mk hcx
 have r0 : W3.rangeAt b 0 [.int .i64 x0, .int .i64 x1, .int .i64 x2, .int .i64 x3, .int .i64 x4, .int .i64 x5, .int .i64 x6, .int .i64 x7, .int .i64 x8, .int .i64 x9, .int .i64 x10, .int .i64 x11, .int .i64 x12, .int .i64 x13, .int .i64 x14, .int .i64 x15] := by rw [hcx] at r0; exact r0
 have r1 : (W3.alloc (.cells #[] 3)).rangeAt b 0 [.int .i64 x0, .int .i64 x1, .int .i64 x2, .int .i64 x3, .int .i64 x4, .int .i64 x5, .int .i64 x6, .int .i64 x7, .int .i64 x8, .int .i64 x9, .int .i64 x10, .int .i64 x11, .int .i64 x12, .int .i64 x13, .int .i64 x14, .int .i64 x15] := by rw [hcx] at r1; exact r1
 have hRR : ∀ w4 : World, w4.heap[b]? = some (.cells (nums .i64 cs).toArray 177 (0, 0)) → w4.rangeAt b 0 [.int .i64 x0, .int .i64 x1, .int .i64 x2, .int .i64 x3, .int .i64 x4, .int .i64 x5, .int .i64 x6, .int .i64 x7, .int .i64 x8, .int .i64 x9, .int .i64 x10, .int .i64 x11, .int .i64 x12, .int .i64 x13, .int .i64 x14, .int .i64 x15] := fun w4 h => by
  have := arr_range h; rw [hcx] at this; exact this
 have hi : (Tryz.prog.info? 177).map (·.size) = some ([.int .i64 x0, .int .i64 x1, .int .i64 x2, .int .i64 x3, .int .i64 x4, .int .i64 x5, .int .i64 x6, .int .i64 x7, .int .i64 x8, .int .i64 x9, .int .i64 x10, .int .i64 x11, .int .i64 x12, .int .i64 x13, .int .i64 x14, .int .i64 x15] : List Value).length := infoArr
 clear hcx
 go_region_held3 (fun w' => w'.rangeAt b 0 [.int .i64 x0, .int .i64 x1, .int .i64 x2, .int .i64 x3, .int .i64 x4, .int .i64 x5, .int .i64 x6, .int .i64 x7, .int .i64 x8, .int .i64 x9, .int .i64 x10, .int .i64 x11, .int .i64 x12, .int .i64 x13, .int .i64 x14, .int .i64 x15]) (first | exact r0 | exact r1 | exact hra | exact World.rangeAt_alloc hra _) ((refine app_stepR w.heap.size rfl _ _ 74 3 .i64 8 rfl Tryz.underlying74 infoI649 (.slice (some ⟨W3.heap.size, 0, none⟩) 0 0) [] l rfl A l.length c rfl rfl HNO.out HNW.out hOE.drew hB1 hl1 hl2 ?_; intro v1 w4 hap; obtain ⟨A5, n5, m5, hv5, hn5⟩ := hap.row.shape; subst hv5; have hra : w4.rangeAt b 0 [.int .i64 x0, .int .i64 x1, .int .i64 x2, .int .i64 x3, .int .i64 x4, .int .i64 x5, .int .i64 x6, .int .i64 x7, .int .i64 x8, .int .i64 x9, .int .i64 x10, .int .i64 x11, .int .i64 x12, .int .i64 x13, .int .i64 x14, .int .i64 x15] := hRR w4 (hRA _ w4 hap)))
 have HB34 : Below W3.heap.size W3 w4 := (((Below.refl W3.heap.size W3).alloc (Nat.le_refl _) (.cells #[] 3)).drew).grown hap.grown (show W3.heap.size ≤ (W3.alloc (.cells #[] 3)).drew.heap.size from hB13) (fun g hg => by simp [Value.ownBlock] at hg; omega)
 have hrl : Row w4 w.heap.size 3 .i64 (.slice A5 n5 m5) l := hap.row
 obtain ⟨tb, htb⟩ : ∃ tb, tb = w4.heap.size := ⟨_, rfl⟩
 have HT5 := heap_alloc_new w4 (.cells #[.slice A5 n5 m5, .slice Av nv mv, .int .i64 x0, .int .i64 x1, .int .i64 x2, .int .i64 x3, .int .i64 x4, .int .i64 x5, .int .i64 x6, .int .i64 x7, .int .i64 x8, .int .i64 x9, .int .i64 x10, .int .i64 x11, .int .i64 x12, .int .i64 x13, .int .i64 x14, .int .i64 x15, .slice none 0 0, .int .i64 0] 179)
 have H5 : Aside0 (_ ∧ _ ∧ _ ∧ _) := ⟨HT5, hrl.alloc (.cells #[.slice A5 n5 m5, .slice Av nv mv, .int .i64 x0, .int .i64 x1, .int .i64 x2, .int .i64 x3, .int .i64 x4, .int .i64 x5, .int .i64 x6, .int .i64 x7, .int .i64 x8, .int .i64 x9, .int .i64 x10, .int .i64 x11, .int .i64 x12, .int .i64 x13, .int .i64 x14, .int .i64 x15, .slice none 0 0, .int .i64 0] 179), (HC3.out.below HB34).alloc (.cells #[.slice A5 n5 m5, .slice Av nv mv, .int .i64 x0, .int .i64 x1, .int .i64 x2, .int .i64 x3, .int .i64 x4, .int .i64 x5, .int .i64 x6, .int .i64 x7, .int .i64 x8, .int .i64 x9, .int .i64 x10, .int .i64 x11, .int .i64 x12, .int .i64 x13, .int .i64 x14, .int .i64 x15, .slice none 0 0, .int .i64 0] 179), below_alloc (HB3.out.trans (HB34.mono HB3.out.size)) (.cells #[.slice A5 n5 m5, .slice Av nv mv, .int .i64 x0, .int .i64 x1, .int .i64 x2, .int .i64 x3, .int .i64 x4, .int .i64 x5, .int .i64 x6, .int .i64 x7, .int .i64 x8, .int .i64 x9, .int .i64 x10, .int .i64 x11, .int .i64 x12, .int .i64 x13, .int .i64 x14, .int .i64 x15, .slice none 0 0, .int .i64 0] 179)⟩
 have HTB : Aside0 (w.heap.size ≤ tb) := ⟨by rw [htb]; exact Nat.le_trans HB3.out.size HB34.size⟩
 rw [← htb] at H5 ⊢
 clear hap hra r0 r1 hRR hRA HNW hOE HN HT5 HB34 hrl hi hB1 hl1 hl2 htb
 generalize w4.alloc _ = W5 at H5 ⊢
 go_wp2_with fail
 have HLT := Aside0.mk (blk_lt H5.out.1)
 clear hi r0 r1 hB13 HA3 HC3 HBL HR3
 go_loopw [9] (fun v9 wr => ∃ (n : Nat) (vs : Value), v9 = .int .i64 n ∧ 1 ≤ n ∧ n ≤ 16 ∧ Aside0 (wr.heap[tb]? = some (.cells #[.slice A5 n5 m5, .slice Av nv mv, .int .i64 x0, .int .i64 x1, .int .i64 x2, .int .i64 x3, .int .i64 x4, .int .i64 x5, .int .i64 x6, .int .i64 x7, .int .i64 x8, .int .i64 x9, .int .i64 x10, .int .i64 x11, .int .i64 x12, .int .i64 x13, .int .i64 x14, .int .i64 x15, vs, .int .i64 (lgA l n)] 179 (0, 0)) ∧ Row wr W5.heap.size 3 .i64 vs (symA l n) ∧ Fr W5 wr (· = tb))) (fun v9 _ => 16 - (intOf v9).toNat)
 case atStart => exact ⟨1, .slice none 0 0, rfl, by omega, by omega, H5.out.1, Row.nil _ _ _ _, Fr.refl _ _⟩
 case round =>
  obtain ⟨n, vs, rfl, hn1, hn2, HS⟩ := hrel
  by_cases hlt : n ≤ 15
  ·have q1 : decide ((n : Int) ≤ 15) = true := decide_eq_true (by omega)
   have q1n : decide (n ≤ 15) = true := decide_eq_true hlt
   go_wp2_with fail
   go_loopw [38] (fun v38 wr => ∃ (i : Nat) (vs : Value), v38 = .int .i64 i ∧ i ≤ l.length ∧ Aside0 (wr.heap[tb]? = some (.cells #[.slice A5 n5 m5, .slice Av nv mv, .int .i64 x0, .int .i64 x1, .int .i64 x2, .int .i64 x3, .int .i64 x4, .int .i64 x5, .int .i64 x6, .int .i64 x7, .int .i64 x8, .int .i64 x9, .int .i64 x10, .int .i64 x11, .int .i64 x12, .int .i64 x13, .int .i64 x14, .int .i64 x15, vs, .int .i64 (lgP (lgA l n) l n i)] 179 (0, 0)) ∧ Row wr W5.heap.size 3 .i64 vs (symA l n ++ symP l n i) ∧ Fr W5 wr (· = tb))) (fun v38 _ => l.length - (intOf v38).toNat)
   case atStart => exact ⟨0, vs, rfl, by omega, ⟨by simpa [symP, lgP] using HS.out⟩⟩
   case round =>
    clear HS vs
    obtain ⟨i, vs, rfl, hi, HS⟩ := hrel
    by_cases hil : i < l.length
    ·have q3 : decide ((i : Int) < (l.length : Int)) = true := decide_eq_true (by omega)
     have q3n : decide (i < l.length) = true := decide_eq_true hil
     obtain ⟨A1, n1, k1c, hv, hn1'⟩ := HS.out.2.1.shape
     subst hv
     obtain ⟨ad2, he, hcell⟩ := ReadsInt.at_ HR.out (i : Int) (by omega) (by omega)
     subst he
     rw [Int.toNat_natCast, rd, Int.toNat_natCast] at hcell
     have HBw : Below w.heap.size w wr := H5.out.2.2.2.trans (HS.out.2.2.below (by rintro k rfl; exact HTB.out) H5.out.2.2.2.size)
     have d0 := (HBw.cell (World.block_lt_of_cell? w _ hcell)).trans hcell
     obtain ⟨x, hx⟩ : ∃ x, x = l.getD i 0 := ⟨_, rfl⟩
     rw [← hx] at d0
     have HSUC := Aside0.mk (symP_succ l n i)
     rw [← hx] at HSUC
     have hsl := symP_length l n i
     clear hx hcell HBw
     by_cases hxn : x = (n : Int)
     ·have q4 : (x == (n : Int)) = true := beq_iff_eq.2 hxn
      rw [if_pos hxn] at HSUC
      clear hxn
      have d18 : wr.cell? ⟨tb, 18, none⟩ = some (.slice A1 n1 k1c) := (blk_cell HS.out.1 18).trans (by simp)
      have f18 := blk_frozen HS.out.1 18
      have HRW := Aside0.mk HS.out.2.1
      have hsz : W5.heap.size ≤ wr.heap.size := HS.out.2.2.size
      have HSYL : Aside0 ((symA l n ++ symP l n i).length ≤ 100000000) := ⟨by have h1 := symA_length l n; rw [List.length_append]; have h2 : n * l.length ≤ 16 * 320 := Nat.mul_le_mul hn2 hl; omega⟩
      obtain ⟨sy, hsy⟩ : ∃ sy, sy = symA l n ++ symP l n i := ⟨_, rfl⟩
      rw [← hsy] at HRW HSYL
      have hl1 : sy.length + 1 ≤ maxLen := by have := HSYL.out; unfold maxLen; omega
      have hl2 : (sy.length + 1) * 8 ≤ 140737488355328 := by have := HSYL.out; omega
      have hBx : W5.heap.size ≤ (wr.alloc (.cells #[.int .i64 (i : Int)] 3)).heap.size := by simp; omega
      have HSY := Aside0.mk hsy
      clear hsy
      go_wp2_with (at_builtin; refine app_wp W5.heap.size rfl _ _ 74 3 .i64 8 rfl Tryz.underlying74 infoI649 (.slice A1 n1 k1c) sy [(i : Int)] rfl ⟨wr.heap.size, 0, none⟩ 1 1 rfl rfl (news_lit wr .i64 [(i : Int)] _ _ (by rfl)) (HRW.out.alloc _) hBx hl1 hl2 ?_; intro v3 w3 hap; obtain ⟨A3, n3, m3, hv3, hn3⟩ := hap.row.shape; subst hv3; have hb3 := hap.blk1 HRW.out HS.out.1 (by decide); have d3 := blk_frozen hb3 18; have d4 : w3.cell? ⟨tb, 18, none⟩ = some (.slice A1 n1 k1c) := (blk_cell hb3 18).trans (by simp); have hb4 := blk_set hb3 18 (.slice A3 n3 m3); have d5 := blk_frozen hb4 19; have d6 : (w3.setCell ⟨tb, 18, none⟩ (.slice A3 n3 m3)).cell? ⟨tb, 19, none⟩ = some (.int .i64 (lgP (lgA l n) l n i)) := (blk_cell hb4 19).trans (by simp))
      go_roundw
      case rel =>
       refine ⟨i + 1, .slice A3 n3 m3, by go_num, by omega, ⟨?_, ?_, ?_⟩⟩
       ·refine (blk_set hb4 19 _).trans ?_
        have e : lgP (lgA l n) l n (i + 1) = (n : Int) := by unfold lgP; rw [HSUC.out, if_neg (by simp)]
        rw [e]
        simp
       ·have h1 := hap.row
        rw [HSY.out, List.append_assoc, ← HSUC.out] at h1
        exact (h1.fr (S := (· = tb)) (((Fr.refl _ _).set1 18 _).set1 19 _) (fun g hg => by have := (h1.lt g hg).1; have := HLT.out; omega))
       ·have hbel := hap.below1 HRW.out hsz
        have hfr : Fr wr w3 (fun k => W5.heap.size ≤ k) := ⟨hbel.os, hbel.tape, hbel.output, hbel.size, fun k hk hn => hbel.block k (by omega)⟩
        have hall : Fr W5 w3 (· = tb) := HS.out.2.2.trans hfr (fun k hk h => absurd hk (by omega))
        exact (hall.set1 18 _).set1 19 _
      case measure => simp [intOf]; omega
     ·have q4 : (x == (n : Int)) = false := beq_eq_false_iff_ne.2 hxn
      rw [if_neg hxn] at HSUC
      clear hxn
      go_wp2_with fail
      go_roundw
      case rel => exact ⟨i + 1, _, by go_num, by omega, ⟨by unfold lgP at *; rw [HSUC.out]; exact HS.out⟩⟩
      case measure => simp [intOf]; omega
    ·have q3 : decide ((i : Int) < (l.length : Int)) = false := decide_eq_false (by omega)
     have q3n : decide (i < l.length) = false := decide_eq_false hil
     obtain rfl : i = l.length := by omega
     go_wp2_with fail
     go_roundw
     case rel =>
      refine ⟨n + 1, vs, by go_num, by omega, by omega, ?_⟩
      obtain ⟨m, rfl⟩ : ∃ m, n = m + 1 := ⟨n - 1, by omega⟩
      exact HS
     case measure => simp [intOf]; omega
  ·have q1 : decide ((n : Int) ≤ 15) = false := decide_eq_false (by omega)
   have q1n : decide (n ≤ 15) = false := decide_eq_false hlt
   go_wp2_with fail
   go_returns
   obtain rfl : n = 16 := by omega
   have hne : ∀ {u : Value} {zs : List Int}, Row W5 w.heap.size 3 .i64 u zs → ∀ g, u.ownBlock = some g → ¬ g = tb := fun h => h.ne_blk H5.out.1 (by decide)
   have hfin := HS.out.1
   refine ⟨tb, rfl, ⟨⟨.slice A5 n5 m5, .slice Av nv mv, vs, ?_, H5.out.2.1.fr HS.out.2.2 (hne H5.out.2.1), H5.out.2.2.1.fr HS.out.2.2 (hne H5.out.2.2.1), HS.out.2.1.lower H5.out.2.2.2.size⟩, cntL_length l⟩, HTB.out, ?_⟩
   ·rw [← HCS.out, HCX.out]; exact hfin
   exact H5.out.2.2.2.trans (HS.out.2.2.below (by rintro k rfl; exact HTB.out) H5.out.2.2.2.size)
end Go.Proofs.YtghoifkaikddlaaGreat.Hand
