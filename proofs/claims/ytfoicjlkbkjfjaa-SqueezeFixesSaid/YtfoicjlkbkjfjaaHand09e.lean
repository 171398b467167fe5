/- Codes: what is left, the first numbers; walked by hand. Codes: Check, may; walked by hand. Codes: the first numbers; walked by hand. Codes: the codes; walked by hand. -/
import Derived.Test.YtfoicjlkbkjfjaaHand09
import Derived.Handy
namespace Go.Proofs.Ytfoicjlkbkjfjaa.Hand
open Go.RowKit Go.Proofs.YtfoicjlkbkjfjaaW.PrintWords Go.Proofs.YtfoicjlkbkjfjaaW.PrintLast Go.Proofs.YtfoicjlkbkjfjaaW.PrintMore Go.Proofs.Ytfoicjlkbkjfjaa.Num
set_option linter.unusedVariables false
set_option linter.unusedSimpArgs false
def leftG : List Int → Int → Int
  | [], x => x
  | c :: t, x => if 2 * x - c < 0 then -1 else leftG t (2 * x - c)
def leftF (cs : List Int) : Int := leftG (cs.drop 1) 1
theorem leftG_drop (cs : List Int) (n : Nat) (h : n < cs.length) (x : Int) : leftG (cs.drop n) x = if 2 * x - cs.getD n 0 < 0 then -1 else leftG (cs.drop (n + 1)) (2 * x - cs.getD n 0) := by
  rw [List.drop_eq_getElem_cons h, leftG, List.getD_eq_getElem?_getD, List.getElem?_eq_getElem h]; rfl
theorem nums_at (cs : List Int) (m : Nat) (h : m < cs.length) : (nums .i64 cs).toArray[m]? = some (.int .i64 (cs.getD m 0)) := by
  rw [List.getD_eq_getElem?_getD]; simp [nums, List.getElem?_eq_getElem h]
theorem getD_rng9 {cs : List Int} {a b : Int} (hr : ∀ x ∈ cs, a ≤ x ∧ x ≤ b) (m : Nat) (h : m < cs.length) : a ≤ cs.getD m 0 ∧ cs.getD m 0 ≤ b := by
  rw [List.getD_eq_getElem?_getD, List.getElem?_eq_getElem h]
  exact hr _ (List.getElem_mem _)
set_option maxRecDepth 100000 in
set_option maxHeartbeats 4000000 in
theorem left_calls (cs : List Int) (hl : cs.length = 16) (hr : ∀ x ∈ cs, 0 ≤ x ∧ x ≤ 320) (w : World) :
    Calls Try.prog 95 #[.agg (nums .i64 cs).toArray] w fun e w' => e = .returned (.int .i64 (leftF cs)) ∧ Below w.heap.size w w' := by
  have HL := Aside0.mk hl
  have HR := Aside0.mk hr
  have hn16 : (nums .i64 cs).length = 16 := by rw [nums_length]; exact hl
  clear hl hr
  go_enter Try.func95, Try.ntmps95
  go_wp2_with fail
  obtain ⟨g, hg⟩ : ∃ g, g = w.heap.size := ⟨_, rfl⟩
  go_loopw [3, 4] (fun v3 v4 wr => ∃ (n : Nat) (x : Int), v3 = .int .i64 x ∧ v4 = .int .i64 n ∧ 1 ≤ n ∧ n ≤ 16 ∧ 0 ≤ x ∧ Aside0 (x ≤ 2 ^ (n - 1)) ∧ Aside0 (leftG (cs.drop n) x = leftF cs) ∧ Aside0 (wr.heap[w.heap.size]? = some (.cells (nums .i64 cs).toArray 91 (0, 0)) ∧ Below w.heap.size w wr)) (fun _ v4 _ => 16 - (intOf v4).toNat)
  case atStart => exact ⟨1, 1, rfl, rfl, by omega, by omega, by omega, ⟨by decide⟩, ⟨rfl⟩, ⟨heap_alloc_new _ _, below_alloc (Below.refl _ _) _⟩⟩
  case round =>
    obtain ⟨n, x, rfl, rfl, hn1, hn2, hx0, HX, HG, HW⟩ := hrel
    by_cases hlt : n ≤ 15
    · have q1 : decide ((n : Int) ≤ 15) = true := decide_eq_true (by omega)
      have q1n : decide (n ≤ 15) = true := decide_eq_true hlt
      have hcl := HL.out
      have hy := getD_rng9 HR.out n (by omega)
      have hy2 := nums_at cs n (by omega)
      have hd := leftG_drop cs n (by omega) x
      have hp2 : (2 : Int) ^ (n - 1) ≤ 2 ^ 14 := by
        have := Nat.pow_le_pow_right (show 0 < 2 by decide) (show n - 1 ≤ 14 by omega)
        exact_mod_cast this
      have hx2 : x ≤ 16384 := by have := HX.out; omega
      obtain ⟨y, hyy⟩ : ∃ y, y = cs.getD n 0 := ⟨_, rfl⟩
      rw [← hyy] at hy hy2 hd
      have d1 : wr.cell? ⟨w.heap.size, n, none⟩ = some (.int .i64 y) := (blk_cell HW.out.1 n).trans hy2
      rw [HG.out] at hd
      have HD := Aside0.mk hd
      clear hy2 hd hp2 hyy hcl HG
      by_cases hneg : 2 * x - y < 0
      · have q2 : decide (2 * x - y < 0) = true := decide_eq_true hneg
        go_wp2_with fail
        go_returns
        exact ⟨by rw [HD.out, if_pos hneg]; rfl, HW.out.2⟩
      · have q2 : decide (2 * x - y < 0) = false := decide_eq_false hneg
        go_wp2_with fail
        go_roundw
        case rel =>
          refine ⟨n + 1, 2 * x - y, by go_num, by go_num, by omega, by omega, by omega, ⟨?_⟩, ⟨by rw [HD.out, if_neg hneg]⟩, HW⟩
          have e : (2 : Int) ^ (n + 1 - 1) = 2 * 2 ^ (n - 1) := by
            rw [show n + 1 - 1 = (n - 1) + 1 by omega, Int.pow_succ']
          have := HX.out
          rw [e]; omega
        case measure => simp [intOf]; omega
    · have q1 : decide ((n : Int) ≤ 15) = false := decide_eq_false (by omega)
      have q1n : decide (n ≤ 15) = false := decide_eq_false hlt
      obtain rfl : n = 16 := by omega
      have hG := HG.out
      rw [List.drop_eq_nil_of_le (by rw [HL.out]; omega), leftG] at hG
      have HGG := Aside0.mk hG
      clear hG
      go_wp2_with fail
      go_returns
      exact ⟨by rw [HGG.out]; rfl, HW.out.2⟩
theorem cntE_cases (l : List Int) : cntE l = 0 ∨ cntE l = 2 ∨ cntE l = 3 := by
  unfold cntE
  by_cases h : 320 < l.length
  · rw [if_pos h]; exact .inr (.inl rfl)
  · rw [if_neg h]
    split
    · exact .inl rfl
    · exact .inr (.inr rfl)
theorem cntL_length (l : List Int) : (cntL l).length = 16 := by
  unfold cntL; split
  · rw [List.length_set, cntS_length]; rfl
  · rfl
theorem cntL_range (l : List Int) : ∀ x ∈ cntL l, 0 ≤ x ∧ x ≤ 320 := by
  unfold cntL; split
  · rename_i h
    have hl : l.length ≤ 320 := by
      unfold cntE at h; split at h
      · cases h
      · omega
    intro x hx
    rcases List.mem_or_eq_of_mem_set hx with hx | rfl
    · have := cntS_range l zeros 0 (by unfold zeros; simp) (by omega) x hx; omega
    · omega
  · unfold zeros; simp
end Go.Proofs.Ytfoicjlkbkjfjaa.Hand
namespace Go.Proofs.Ytfoicjlkbkjfjaa.Hand
open Go.RowKit Go.Proofs.YtfoicjlkbkjfjaaW.PrintWords Go.Proofs.YtfoicjlkbkjfjaaW.PrintLast Go.Proofs.YtfoicjlkbkjfjaaW.PrintMore Go.Proofs.Ytfoicjlkbkjfjaa.Num
set_option linter.unusedVariables false
set_option linter.unusedSimpArgs false
theorem infoInt9 : (Try.prog.info? 3).map (·.size) = some 1 := by kernel_rfl
theorem cellsInt9 : Try.prog.cellsOf 3 = 1 := by kernel_rfl
theorem eqItems_nums (d : Nat) (xs ys : List Int) (w : World) : ∀ is : List Nat, (∀ i ∈ is, i < xs.length ∧ i < ys.length) →
    (Op.eqItems (d + 1) 3 1 (nums .i64 xs).toArray (nums .i64 ys).toArray is).run Try.prog w = .ok (is.all fun i => xs.getD i 0 == ys.getD i 0) w
  | [], _ => by simp [Op.eqItems]
  | i :: is, h => by
    have h0 := h i (List.mem_cons_self ..)
    have ih := eqItems_nums d xs ys w is (fun j hj => h j (List.mem_cons_of_mem _ hj))
    have p1 := nums_at xs i h0.1
    have p2 := nums_at ys i h0.2
    have hp : ∀ zs : List Int, (nums .i64 zs).toArray[i]? = some (.int .i64 (zs.getD i 0)) → (part 3 (nums .i64 zs).toArray i).run Try.prog w = .ok (.int .i64 (zs.getD i 0)) w := by
      intro zs hz
      have hag : (isAgg 3).run Try.prog w = .ok false w := by
        unfold isAgg; rw [Sem.run_bind, run_underlying Try.underlying3 w]; rfl
      unfold part
      rw [Sem.run_bind, hag]
      simp only [Result.andThen_ok, Bool.false_eq_true, if_false]
      rw [hz]; rfl
    simp only [Op.eqItems, Nat.mul_one, Sem.run_bind, hp xs p1, hp ys p2, Result.andThen_ok, run_equalIn_int w d 3 .i64 .i64 (xs.getD i 0) (ys.getD i 0) Try.underlying3, List.all_cons]
    cases hq : (xs.getD i 0 == ys.getD i 0)
    · simp
    · simpa using ih
set_option maxRecDepth 100000 in
theorem eq_arr (cs : List Int) (hl : cs.length = 16) (w : World) : (Op.equalIn 10000 91 (.agg (nums .i64 cs).toArray) (.agg (nums .i64 zeros).toArray)).run Try.prog w = .ok (decide (cs = zeros)) w := by
  obtain ⟨i, hi, hz⟩ := Option.map_eq_some_iff.1 infoInt9
  rw [show (10000 : Nat) = 9999 + 1 from rfl, run_equalIn_array w 9999 _ _ Try.underlying91 hi, cellsInt9, show (9999 : Nat) = 9998 + 1 from rfl, eqItems_nums 9998 cs zeros w (List.range 16) (fun i hi => by rw [hl]; exact ⟨by simpa using hi, by simpa [zeros] using hi⟩)]
  congr 1
  rw [Bool.eq_iff_iff, List.all_eq_true, decide_eq_true_iff]
  constructor
  · intro h
    refine List.ext_getElem (by rw [hl]; rfl) (fun j h1 h2 => ?_)
    have := h j (by simpa using (by omega : j < 16))
    rw [beq_iff_eq, List.getD_eq_getElem?_getD, List.getElem?_eq_getElem h1, List.getD_eq_getElem?_getD, List.getElem?_eq_getElem h2] at this
    exact this
  · rintro rfl j hj
    simp
/-- What Check tells. -/
def chkF (l : List Int) : Int := if cntE l ≠ 0 then cntE l else if cntL l = zeros then 12 else if leftF (cntL l) < 0 then 7 else if 0 < leftF (cntL l) then 5 else 0
set_option maxRecDepth 100000 in
set_option maxHeartbeats 4000000 in
theorem check_calls (A : Option Addr) (n c : Nat) (l : List Int) (w : World) (hn : n = l.length) (hr : ReadsInt w .i64 A l.length l) (hc : n ≤ c) :
    Calls Try.prog 83 #[.slice A n c] w fun e w' => e = .returned (.int .i64 (chkF l)) ∧ Below w.heap.size w w' := by
  subst hn
  have HL := Aside0.mk (cntL_length l)
  have HR := Aside0.mk (cntL_range l)
  have HI := Aside0.mk (show (nums .i64 (cntL l)).length = 16 by rw [nums_length]; exact cntL_length l)
  obtain ⟨cs, hcs⟩ : ∃ cs, cs = cntL l := ⟨_, rfl⟩
  obtain ⟨ce, hce⟩ : ∃ ce, ce = cntE l := ⟨_, rfl⟩
  rw [← hcs] at HL HR HI
  have HC : Aside0 (chkF l = if ce ≠ 0 then ce else if cs = zeros then 12 else if leftF cs < 0 then 7 else if 0 < leftF cs then 5 else 0) := ⟨by unfold chkF; rw [← hcs, ← hce]⟩
  have HK := Aside0.mk (counted_calls A l.length c l w rfl hr hc)
  rw [← hcs, ← hce] at HK
  clear hcs hce hr

  go_enter Try.func83, Try.ntmps83
  go_wp2_with fail

  refine HK.out.mono ?_

  rintro e w1 ⟨rfl, hb1⟩
  have HB1 := Aside0.mk hb1
  clear hb1

  go_wp2_with (first | (refine wpList_store_mid rfl 91 _ _ rfl w1.heap.size 0 (nums .i64 cs).toArray rfl rfl (arr_there (cs := nums .i64 zeros) (t := 91) (heap_alloc_new w1 _) _ (by rw [List.size_toArray, HI.out]; rfl)) (by rw [infoArr]; simpa using HI.out.symm) (all_oneCell_toArray (nums_one _ _)) ?_) | (refine wpList_load_row rfl 91 _ rfl w1.heap.size rfl 91 (nums .i64 cs).toArray (0, 0) _ (setCells_blk (cs := nums .i64 zeros) (heap_alloc_new w1 _) (by rw [HI.out]; rfl)) Try.underlying91 rfl (by rw [infoArr]; simpa using HI.out.symm) ?_))
  have H2 : Aside0 (_ ∧ _) := ⟨setCells_blk (vs := nums .i64 cs) (cs := nums .i64 zeros) (t := 91) (heap_alloc_new w1 (.cells (nums .i64 zeros).toArray 91)) (by rw [HI.out]; rfl), (HB1.out.alloc HB1.out.size _).trans ((setCells_fr w1.heap.size (nums .i64 cs) 0 (w1.alloc (.cells (nums .i64 zeros).toArray 91))).below (by rintro k rfl; exact HB1.out.size) (by simp; have := HB1.out.size; omega))⟩
  refine (left_calls cs HL.out HR.out _).mono ?_
  rintro e w3 ⟨rfl, hb3⟩
  have H3 : Aside0 (_ ∧ _) := ⟨(Fr.of_below hb3 (fun _ => False)).blk H2.out.1 id, H2.out.2.trans (hb3.mono H2.out.2.size)⟩
  clear hb3 H2 HB1 HK
  obtain ⟨lf, hlf⟩ : ∃ lf, lf = leftF cs := ⟨_, rfl⟩
  rw [← hlf] at HC ⊢
  clear hlf
  by_cases h1 : ce ≠ 0
  · have q1 : (ce != 0) = true := by simpa using h1
    have HC2 : Aside0 (chkF l = ce) := ⟨by rw [HC.out, if_pos h1]⟩
    clear HC h1
    go_wp2_with fail
    go_returns
    exact ⟨by rw [HC2.out]; rfl, H3.out.2⟩
  · have q1 : (ce != 0) = false := by simpa using h1
    rw [if_neg h1] at HC
    clear h1
    have HEQ := Aside0.mk (eq_arr cs HL.out)
    by_cases h2 : cs = zeros
    · rw [if_pos h2] at HC
      have hq : ∀ W, (Op.equalIn 10000 91 (.agg (nums .i64 cs).toArray) (.agg #[.int .i64 0, .int .i64 0, .int .i64 0, .int .i64 0, .int .i64 0, .int .i64 0, .int .i64 0, .int .i64 0, .int .i64 0, .int .i64 0, .int .i64 0, .int .i64 0, .int .i64 0, .int .i64 0, .int .i64 0, .int .i64 0])).run Try.prog W = .ok true W := fun W => by
        have := HEQ.out W; rw [decide_eq_true h2] at this; exact this
      clear h2
      go_wp2_with (refine wpList_load_row rfl 91 _ rfl w1.heap.size rfl 91 (nums .i64 cs).toArray (0, 0) _ H3.out.1 Try.underlying91 rfl (by rw [infoArr]; simpa using HI.out.symm) ?_)
      go_returns
      exact ⟨by rw [HC.out]; rfl, H3.out.2⟩
    · rw [if_neg h2] at HC
      have hq : ∀ W, (Op.equalIn 10000 91 (.agg (nums .i64 cs).toArray) (.agg #[.int .i64 0, .int .i64 0, .int .i64 0, .int .i64 0, .int .i64 0, .int .i64 0, .int .i64 0, .int .i64 0, .int .i64 0, .int .i64 0, .int .i64 0, .int .i64 0, .int .i64 0, .int .i64 0, .int .i64 0, .int .i64 0])).run Try.prog W = .ok false W := fun W => by
        have := HEQ.out W; rw [decide_eq_false h2] at this; exact this
      clear h2
      by_cases h3 : lf < 0
      · have q3 : decide (lf < 0) = true := decide_eq_true h3
        rw [if_pos h3] at HC
        go_wp2_with (refine wpList_load_row rfl 91 _ rfl w1.heap.size rfl 91 (nums .i64 cs).toArray (0, 0) _ H3.out.1 Try.underlying91 rfl (by rw [infoArr]; simpa using HI.out.symm) ?_)
        go_returns
        exact ⟨by rw [HC.out]; rfl, H3.out.2⟩
      · have q3 : decide (lf < 0) = false := decide_eq_false h3
        rw [if_neg h3] at HC
        by_cases h4 : 0 < lf
        · have q4 : decide (0 < lf) = true := decide_eq_true h4
          rw [if_pos h4] at HC
          go_wp2_with (refine wpList_load_row rfl 91 _ rfl w1.heap.size rfl 91 (nums .i64 cs).toArray (0, 0) _ H3.out.1 Try.underlying91 rfl (by rw [infoArr]; simpa using HI.out.symm) ?_)
          go_returns
          exact ⟨by rw [HC.out]; rfl, H3.out.2⟩
        · have q4 : decide (0 < lf) = false := decide_eq_false h4
          rw [if_neg h4] at HC
          go_wp2_with (refine wpList_load_row rfl 91 _ rfl w1.heap.size rfl 91 (nums .i64 cs).toArray (0, 0) _ H3.out.1 Try.underlying91 rfl (by rw [infoArr]; simpa using HI.out.symm) ?_)
          go_returns
          exact ⟨by rw [HC.out]; rfl, H3.out.2⟩
/-- Why there may be no codes. -/
def mayF (l : List Int) : Int := if chkF l = 12 ∨ chkF l = 5 then 0 else chkF l
set_option maxRecDepth 100000 in
set_option maxHeartbeats 4000000 in
theorem may_calls (A : Option Addr) (c : Nat) (l : List Int) (w : World) (hr : ReadsInt w .i64 A l.length l) (hc : l.length ≤ c) :
    Calls Try.prog 88 #[.slice A l.length c] w fun e w' => e = .returned (.int .i64 (mayF l)) ∧ Below w.heap.size w w' := by
  have HK := Aside0.mk (check_calls A l.length c l w rfl hr hc)
  obtain ⟨x, hx⟩ : ∃ x, x = chkF l := ⟨_, rfl⟩
  have HM : Aside0 (mayF l = if x = 12 ∨ x = 5 then 0 else x) := ⟨by unfold mayF; rw [← hx]⟩
  rw [← hx] at HK
  clear hx hr
  by_cases h1 : x = 12
  · subst h1
    have HM2 : Aside0 (mayF l = 0) := ⟨by rw [HM.out, if_pos (.inl rfl)]⟩
    go_enter Try.func88, Try.ntmps88
    go_wp2_with fail
    refine HK.out.mono ?_
    rintro e w1 ⟨rfl, hb1⟩
    go_wp2_with fail
    go_returns
    exact ⟨by rw [HM2.out]; rfl, hb1⟩
  · by_cases h2 : x = 5
    · subst h2
      have HM2 : Aside0 (mayF l = 0) := ⟨by rw [HM.out, if_pos (.inr rfl)]⟩
      go_enter Try.func88, Try.ntmps88
      go_wp2_with fail
      refine HK.out.mono ?_
      rintro e w1 ⟨rfl, hb1⟩
      go_wp2_with fail
      go_returns
      exact ⟨by rw [HM2.out]; rfl, hb1⟩
    · have HM2 : Aside0 (mayF l = x) := ⟨by rw [HM.out, if_neg (fun h => h.elim h1 h2)]⟩
      have q1 : (x == 12) = false := beq_eq_false_iff_ne.2 h1
      have q2 : (x == 5) = false := beq_eq_false_iff_ne.2 h2
      go_enter Try.func88, Try.ntmps88
      go_wp2_with fail
      refine HK.out.mono ?_
      rintro e w1 ⟨rfl, hb1⟩
      go_wp2_with fail
      go_returns
      exact ⟨by rw [HM2.out]; rfl, hb1⟩
end Go.Proofs.Ytfoicjlkbkjfjaa.Hand
namespace Go.Proofs.Ytfoicjlkbkjfjaa.Hand
open Go.RowKit Go.Proofs.YtfoicjlkbkjfjaaW.PrintWords Go.Proofs.YtfoicjlkbkjfjaaW.PrintLast Go.Proofs.YtfoicjlkbkjfjaaW.PrintMore Go.Proofs.Ytfoicjlkbkjfjaa.Num
set_option linter.unusedVariables false
set_option linter.unusedSimpArgs false
def fst9 (cs : List Int) : Nat → Int
  | 0 => 0
  | n + 1 => 2 * (fst9 cs n + cs.getD n 0)
def fstL (cs : List Int) (n : Nat) : List Int := (List.range 16).map (fun k => if k < n then fst9 cs k else 0)
theorem fstL_length (cs : List Int) (n : Nat) : (fstL cs n).length = 16 := by simp [fstL]
theorem fstL_getD (cs : List Int) (n k : Nat) (h : k < 16) : (fstL cs n).getD k 0 = if k < n then fst9 cs k else 0 := by
  rw [List.getD_eq_getElem?_getD]; simp [fstL, h]
theorem fstL_one (cs : List Int) : fstL cs 1 = zeros := by
  refine List.ext_getElem (by rw [fstL_length]; rfl) (fun j h1 h2 => ?_)
  simp only [fstL, List.getElem_map, List.getElem_range, zeros, List.getElem_replicate]
  split
  · rw [show j = 0 by omega]; rfl
  · rfl
theorem fstL_set (cs : List Int) (n : Nat) : (fstL cs n).set n (fst9 cs n) = fstL cs (n + 1) := by
  refine List.ext_getElem (by rw [List.length_set, fstL_length, fstL_length]) (fun j h1 h2 => ?_)
  rw [List.getElem_set]
  simp only [fstL, List.getElem_map, List.getElem_range]
  by_cases h : n = j
  · subst h; simp
  · rw [if_neg h]
    by_cases h3 : j < n
    · rw [if_pos h3, if_pos (by omega)]
    · rw [if_neg h3, if_neg (by omega)]
theorem fst9_range (cs : List Int) (hr : ∀ x ∈ cs, 0 ≤ x ∧ x ≤ 320) : ∀ n, 0 ≤ fst9 cs n ∧ fst9 cs n + 640 ≤ 640 * 2 ^ n
  | 0 => by simp [fst9]
  | n + 1 => by
    have h := fst9_range cs hr n
    have hg : 0 ≤ cs.getD n 0 ∧ cs.getD n 0 ≤ 320 := by
      by_cases hn : n < cs.length
      · exact getD_rng9 hr n hn
      · rw [List.getD_eq_getElem?_getD, List.getElem?_eq_none (by omega)]; simp
    rw [fst9, Int.pow_succ']
    omega
theorem fst9_small (cs : List Int) (hr : ∀ x ∈ cs, 0 ≤ x ∧ x ≤ 320) (n : Nat) (h : n ≤ 15) : 0 ≤ fst9 cs n ∧ fst9 cs n ≤ 20971520 := by
  have h1 := fst9_range cs hr n
  have h2 : (2 : Int) ^ n ≤ 2 ^ 15 := by
    have := Nat.pow_le_pow_right (show 0 < 2 by decide) h
    exact_mod_cast this
  omega
set_option maxRecDepth 100000 in
set_option maxHeartbeats 4000000 in
theorem firsts_calls (cs : List Int) (hl : cs.length = 16) (hr : ∀ x ∈ cs, 0 ≤ x ∧ x ≤ 320) (w : World) :
    Calls Try.prog 89 #[.agg (nums .i64 cs).toArray] w fun e w' => e = .returned (.agg (nums .i64 (fstL cs 16)).toArray) ∧ Below w.heap.size w w' := by
  have HL := Aside0.mk hl
  have HR := Aside0.mk hr
  clear hl hr
  go_enter Try.func89, Try.ntmps89
  go_wp2_with fail
  obtain ⟨g, hg⟩ : ∃ g, g = w.heap.size := ⟨_, rfl⟩
  go_loopw [4] (fun v4 wr => ∃ (n : Nat), v4 = .int .i64 n ∧ 1 ≤ n ∧ n ≤ 16 ∧ Aside0 (wr.heap[w.heap.size]? = some (.cells (nums .i64 cs).toArray 91 (0, 0)) ∧ wr.heap[w.heap.size + 1]? = some (.cells (nums .i64 zeros).toArray 91 (0, 0)) ∧ wr.heap[w.heap.size + 1 + 1]? = some (.cells (nums .i64 (fstL cs n)).toArray 91 (0, 0)) ∧ Below w.heap.size w wr)) (fun v4 _ => 16 - (intOf v4).toNat)
  case atStart => exact ⟨1, rfl, by omega, by omega, ⟨blk_alloc (blk_alloc (heap_alloc_new _ _) _) _, blk_alloc (heap_alloc2_new _ _ _) _, by rw [fstL_one]; have h := heap_alloc2_new (w.alloc (.cells (nums .i64 cs).toArray 91)) (.cells (nums .i64 zeros).toArray 91) (.cells (nums .i64 zeros).toArray 91); rw [show (w.alloc (.cells (nums .i64 cs).toArray 91)).heap.size = w.heap.size + 1 by simp] at h; exact h, below_alloc (below_alloc (below_alloc (Below.refl _ _) _) _) _⟩⟩
  case round =>
    obtain ⟨n, rfl, hn1, hn2, HW⟩ := hrel
    by_cases hlt : n ≤ 15
    · have q1 : decide ((n : Int) ≤ 15) = true := decide_eq_true (by omega)
      have q1n : decide (n ≤ 15) = true := decide_eq_true hlt
      obtain ⟨m, hm⟩ : ∃ m, n = m + 1 := ⟨n - 1, by omega⟩
      have hw : (n : Int) - 1 = (m : Int) := by omega
      have hm15 : m < 15 := by omega
      obtain ⟨x, hx⟩ : ∃ x, x = (fstL cs n).getD m 0 := ⟨_, rfl⟩
      obtain ⟨y, hy⟩ : ∃ y, y = cs.getD m 0 := ⟨_, rfl⟩
      have hcl := HL.out
      have hyr := getD_rng9 HR.out m (by omega)
      have hx2 : x = fst9 cs m := by rw [hx, fstL_getD _ _ _ (by omega), if_pos (by omega)]
      have hxr := fst9_small cs HR.out m (by omega)
      rw [← hx2] at hxr
      rw [← hy] at hyr
      have d1 : wr.cell? ⟨w.heap.size + 1 + 1, m, none⟩ = some (.int .i64 x) := by rw [hx]; exact (blk_cell HW.out.2.2.1 m).trans (nums_at _ m (by rw [fstL_length]; omega))
      have d2 : wr.cell? ⟨w.heap.size, m, none⟩ = some (.int .i64 y) := by rw [hy]; exact (blk_cell HW.out.1 m).trans (nums_at _ m (by omega))
      have d3 : wr.cell? ⟨w.heap.size + 1 + 1, n, none⟩ = some (.int .i64 ((fstL cs n).getD n 0)) := (blk_cell HW.out.2.2.1 n).trans (nums_at _ n (by rw [fstL_length]; omega))
      have d4 := blk_frozen HW.out.2.2.1 n
      have HS : Aside0 ((fstL cs n).set n (2 * (x + y)) = fstL cs (n + 1)) := ⟨by
        rw [← fstL_set]
        have e : fst9 cs n = 2 * (x + y) := by rw [hm, hx2, hy]; rfl
        rw [e]⟩
      clear hx hy hcl hx2 hm
      go_wp2_with fail
      go_region
      go_wp2
      go_roundw
      case rel =>
        refine ⟨n + 1, by go_num, by omega, by omega, ⟨?_, ?_, ?_, ?_⟩⟩
        · exact (heap_setCell_other _ _ _ _ (by simp; omega)).trans HW.out.1
        · exact (heap_setCell_other _ _ _ _ (by simp)).trans HW.out.2.1
        · refine (blk_set HW.out.2.2.1 n _).trans ?_
          rw [← HS.out]
          simp [nums, List.map_set]
        · exact (HW.out.2.2.2.setCell (by simp; omega) _).drew
      case measure => simp [intOf]; omega
    · have q1 : decide ((n : Int) ≤ 15) = false := decide_eq_false (by omega)
      have q1n : decide (n ≤ 15) = false := decide_eq_false hlt
      obtain rfl : n = 16 := by omega
      clear hlt hn1 hn2
      have HI : Aside0 ((nums .i64 (fstL cs 16)).length = 16) := ⟨by rw [nums_length, fstL_length]⟩
      obtain ⟨fs, hfs⟩ : ∃ fs, fs = fstL cs 16 := ⟨_, rfl⟩
      rw [← hfs] at HW HI
      have HF := Aside0.mk hfs
      clear hfs
      go_wp2_with (first | (refine wpList_load_row rfl 91 _ rfl (w.heap.size + 1 + 1) rfl 91 (nums .i64 fs).toArray (0, 0) _ HW.out.2.2.1 Try.underlying91 rfl (by rw [infoArr]; simpa using HI.out.symm) ?_) | (refine wpList_store_mid rfl 91 _ _ rfl (w.heap.size + 1) 0 (nums .i64 fs).toArray rfl rfl (arr_there HW.out.2.1 _ (by rw [List.size_toArray, HI.out]; rfl)) (by rw [infoArr]; simpa using HI.out.symm) (all_oneCell_toArray (nums_one _ _)) ?_))
      repeat (rw [Exit.noGoto_ret])
      exact bodyPost_ret (results_cell_row Try.results89 _ _ (w.heap.size + 1) 91 (nums .i64 fs).toArray (0, 0) _ rfl (setCells_blk HW.out.2.1 (by rw [HI.out]; rfl)) Try.underlying91 rfl (by rw [infoArr]; simpa using HI.out.symm)) rfl ⟨by rw [HF.out], HW.out.2.2.2.trans ((setCells_fr _ _ _ _).below (by rintro k rfl; omega) HW.out.2.2.2.size)⟩
end Go.Proofs.Ytfoicjlkbkjfjaa.Hand
namespace Go.Proofs.Ytfoicjlkbkjfjaa.Hand
open Go.RowKit Go.Proofs.YtfoicjlkbkjfjaaW.PrintWords Go.Proofs.YtfoicjlkbkjfjaaW.PrintLast Go.Proofs.YtfoicjlkbkjfjaaW.PrintMore Go.Proofs.Ytfoicjlkbkjfjaa.Num
set_option linter.unusedVariables false
set_option linter.unusedSimpArgs false
theorem infoI649 : (Try.prog.info? 3).map (fun i => (i.zero, i.size, i.bytes)) = some (some (.int .i64 0), 1, 8) := by kernel_rfl
/-- The next numbers behind lengths, and the codes of lengths. -/
def nx9 : List Int → List Int → List Int
  | nx, [] => nx
  | nx, n :: t => nx9 (if 0 < n then nx.set n.toNat (nx.getD n.toNat 0 + 1) else nx) t
def code9 : List Int → List Int → List Int
  | _, [] => []
  | nx, n :: t => (if 0 < n then nx.getD n.toNat 0 else 0) :: code9 (if 0 < n then nx.set n.toNat (nx.getD n.toNat 0 + 1) else nx) t
theorem nx9_snoc : ∀ (l nx : List Int) (n : Int), nx9 nx (l ++ [n]) = if 0 < n then (nx9 nx l).set n.toNat ((nx9 nx l).getD n.toNat 0 + 1) else nx9 nx l
  | [], _, _ => rfl
  | _ :: t, _, _ => nx9_snoc t _ _
theorem code9_snoc : ∀ (l nx : List Int) (n : Int), code9 nx (l ++ [n]) = code9 nx l ++ [if 0 < n then (nx9 nx l).getD n.toNat 0 else 0]
  | [], _, _ => rfl
  | a :: t, nx, n => by
    rw [List.cons_append, code9, code9_snoc t _ n, code9, List.cons_append]; rfl
theorem code9_length : ∀ (l nx : List Int), (code9 nx l).length = l.length
  | [], _ => rfl
  | _ :: t, _ => by rw [code9, List.length_cons, code9_length t, List.length_cons]
theorem nx9_length : ∀ (l nx : List Int), (nx9 nx l).length = nx.length
  | [], _ => rfl
  | n :: t, nx => by rw [nx9, nx9_length t]; split <;> simp
theorem nx9_range : ∀ (l nx : List Int) (B : Int), (∀ x ∈ nx, 0 ≤ x ∧ x ≤ B) → 0 ≤ B → ∀ x ∈ nx9 nx l, 0 ≤ x ∧ x ≤ B + l.length
  | [], nx, B, h, _ => by simpa [nx9] using h
  | n :: t, nx, B, h, hB => by
    intro x hx
    have h2 := nx9_range t _ (B + 1) (fun y hy => ?_) (by omega) x hx
    · rw [List.length_cons]; omega
    · have hg : 0 ≤ nx.getD n.toNat 0 ∧ nx.getD n.toNat 0 ≤ B := by
        rw [List.getD_eq_getElem?_getD]
        cases hc : nx[n.toNat]? with
        | none => simpa using hB
        | some z => exact h z (List.mem_of_getElem? hc)
      split at hy
      · rcases List.mem_or_eq_of_mem_set hy with hy | rfl
        · have := h y hy; omega
        · omega
      · have := h y hy; omega
theorem fstL_range (cs : List Int) (hr : ∀ x ∈ cs, 0 ≤ x ∧ x ≤ 320) (n : Nat) : ∀ x ∈ fstL cs n, 0 ≤ x ∧ x ≤ 20971520 := by
  intro x hx
  simp only [fstL, List.mem_map, List.mem_range] at hx
  obtain ⟨k, hk, rfl⟩ := hx
  split
  · exact fst9_small cs hr k (by omega)
  · omega
theorem may_zero {l : List Int} (h : mayF l = 0) : l.length ≤ 320 ∧ ∀ x ∈ l, 0 ≤ x ∧ x ≤ 15 := by
  have hc : cntE l = 0 := by
    rcases cntE_cases l with h0 | h0 | h0
    · exact h0
    · unfold mayF chkF at h; simp [h0] at h
    · unfold mayF chkF at h; simp [h0] at h
  unfold cntE at hc
  by_cases h1 : 320 < l.length
  · rw [if_pos h1] at hc; cases hc
  · rw [if_neg h1] at hc
    refine ⟨by omega, ?_⟩
    split at hc
    · rename_i h2
      intro x hx
      simpa using List.all_eq_true.1 h2 x hx
    · cases hc
/-- The codes of lengths. -/
def codesF (l : List Int) : List Int := if mayF l = 0 then code9 (fstL (cntL l) 16) l else []
set_option maxRecDepth 100000 in
set_option maxHeartbeats 4000000 in
theorem codes_calls (A : Option Addr) (c : Nat) (l : List Int) (w : World) (hr : ReadsInt w .i64 A l.length l) (hc : l.length ≤ c) :
    Calls Try.prog 74 #[.slice A l.length c] w fun e w' => ∃ v, e = .returned (.tuple #[v, .int .i64 (mayF l)]) ∧ Row w' w.heap.size 3 .i64 v (codesF l) ∧ Below w.heap.size w w' := by
  have HR := Aside0.mk hr
  have HK := Aside0.mk (may_calls A c l w hr hc)
  clear hr
  by_cases hm : mayF l = 0
  · obtain ⟨hl, hx⟩ := may_zero hm
    have HX := Aside0.mk hx
    have HM := Aside0.mk hm
    have HCF : Aside0 (codesF l = code9 (fstL (cntL l) 16) l) := ⟨by unfold codesF; rw [if_pos hm]⟩
    rw [hm] at HK
    clear hm hx
    have kmk := print_make (P := Try.prog) 49 3 .i64 8 Try.underlying49 infoI649 (by decide) l.length (by omega)
    go_enter Try.func74, Try.ntmps74
    go_wp2_with fail
    refine HK.out.mono ?_
    rintro e w1 ⟨rfl, hb1⟩
    have HB1 := Aside0.mk hb1
    have HR1 := Aside0.mk (HR.out.below hb1)
    clear hb1 HK
    go_wp2_with fail
    refine (counted_calls A l.length c l w1 rfl HR1.out hc).mono ?_
    rintro e w2 ⟨rfl, hb2⟩
    have HB2 := Aside0.mk (HB1.out.trans (hb2.mono HB1.out.size))
    have HR2 := Aside0.mk (HR1.out.below hb2)
    have HL := Aside0.mk (cntL_length l)
    have HRG := Aside0.mk (cntL_range l)
    have HI := Aside0.mk (show (nums .i64 (cntL l)).length = 16 by rw [nums_length]; exact cntL_length l)
    obtain ⟨cs, hcs⟩ : ∃ cs, cs = cntL l := ⟨_, rfl⟩
    obtain ⟨ce, hce⟩ : ∃ ce, ce = cntE l := ⟨_, rfl⟩
    rw [← hcs] at HL HRG HI HCF
    rw [← hcs, ← hce]
    clear hb2 HB1 HR1 hcs hce
    go_wp2_with (first | (refine wpList_store_mid rfl 91 _ _ rfl w2.heap.size 0 (nums .i64 cs).toArray rfl rfl (arr_there (cs := nums .i64 zeros) (t := 91) (heap_alloc_new w2 _) _ (by rw [List.size_toArray, HI.out]; rfl)) (by rw [infoArr]; simpa using HI.out.symm) (all_oneCell_toArray (nums_one _ _)) ?_) | (refine wpList_load_row rfl 91 _ rfl w2.heap.size rfl 91 (nums .i64 cs).toArray (0, 0) _ (setCells_blk (cs := nums .i64 zeros) (heap_alloc_new w2 _) (by rw [HI.out]; rfl)) Try.underlying91 rfl (by rw [infoArr]; simpa using HI.out.symm) ?_))
    have H3 : Aside0 (Below w.heap.size w _) := ⟨(HB2.out.alloc HB2.out.size (.cells (nums .i64 zeros).toArray 91)).trans ((setCells_fr w2.heap.size (nums .i64 cs) 0 (w2.alloc (.cells (nums .i64 zeros).toArray 91))).below (by rintro k rfl; exact HB2.out.size) (by simp; have := HB2.out.size; omega))⟩
    refine (firsts_calls cs HL.out HRG.out _).mono ?_
    rintro e w4 ⟨rfl, hb4⟩
    have HB4 := Aside0.mk (H3.out.trans (hb4.mono H3.out.size))
    have HFR := Aside0.mk (fstL_range cs HRG.out 16)
    have HFL := Aside0.mk (fstL_length cs 16)
    have HFI := Aside0.mk (show (nums .i64 (fstL cs 16)).length = 16 by rw [nums_length]; exact fstL_length cs 16)
    obtain ⟨fs, hfs⟩ : ∃ fs, fs = fstL cs 16 := ⟨_, rfl⟩
    rw [← hfs] at HFR HFL HFI HCF ⊢
    clear hb4 H3 HB2 HR2 HL HRG HI hfs
    go_wp2_with (refine wpList_store_mid rfl 91 _ _ rfl w4.heap.size 0 (nums .i64 fs).toArray rfl rfl (arr_there (cs := nums .i64 zeros) (t := 91) (heap_alloc_new w4 _) _ (by rw [List.size_toArray, HFI.out]; rfl)) (by rw [infoArr]; simpa using HFI.out.symm) (all_oneCell_toArray (nums_one _ _)) ?_)
    generalize hW : (w4.alloc (.cells #[.int .i64 0, .int .i64 0, .int .i64 0, .int .i64 0, .int .i64 0, .int .i64 0, .int .i64 0, .int .i64 0, .int .i64 0, .int .i64 0, .int .i64 0, .int .i64 0, .int .i64 0, .int .i64 0, .int .i64 0, .int .i64 0] 91)).setCells w4.heap.size 0 (nums .i64 fs) = W5
    have hA : W5.heap[w4.heap.size]? = some (.cells (nums .i64 fs).toArray 91 (0, 0)) := by
      rw [← hW]; exact setCells_blk (cs := nums .i64 zeros) (heap_alloc_new w4 _) (by rw [HFI.out]; rfl)
    have hB5 : Below w.heap.size w W5 := by
      rw [← hW]
      exact (HB4.out.alloc HB4.out.size _).trans ((setCells_fr w4.heap.size (nums .i64 fs) 0 _).below (by rintro k rfl; exact HB4.out.size) (by simp; have := HB4.out.size; omega))
    have hlt5 := blk_lt hA
    have hga : w.heap.size ≤ w4.heap.size := HB4.out.size
    obtain ⟨a, ha⟩ : ∃ a, a = w4.heap.size := ⟨_, rfl⟩
    obtain ⟨r, hr⟩ : ∃ r, r = W5.heap.size := ⟨_, rfl⟩
    have hR6 : Row (W5.alloc (.cells (madeCells #[.int .i64 0] l.length) 3)) w.heap.size 3 .i64 (.slice (some ⟨r, 0, none⟩) l.length l.length) (List.replicate l.length 0) := by
      rw [hr]; exact Row.made W5 w.heap.size 3 .i64 l.length (by omega) (by omega)
    have H6 : Aside0 (_ ∧ _ ∧ _) := ⟨blk_alloc hA (.cells (madeCells #[.int .i64 0] l.length) 3), hR6, below_alloc hB5 (.cells (madeCells #[.int .i64 0] l.length) 3)⟩
    rw [← ha] at H6 hlt5 hga ⊢
    rw [← hr] at hlt5 ⊢
    have HNE := Aside0.mk (And.intro hlt5 hga)
    clear hW hA hB5 ha hr hR6 hlt5 hga HB4
    generalize W5.alloc (.cells (madeCells #[.int .i64 0] l.length) 3) = W6 at H6 ⊢
    go_loopw [28] (fun v28 wr => ∃ (i : Nat), i ≤ l.length ∧ v28 = .int .i64 i ∧ Aside0 (wr.heap[a]? = some (.cells (nums .i64 (nx9 fs (l.take i))).toArray 91 (0, 0)) ∧ Row wr w.heap.size 3 .i64 (.slice (some ⟨r, 0, none⟩) l.length l.length) (code9 fs (l.take i) ++ List.replicate (l.length - i) 0) ∧ Below w.heap.size w wr)) (fun v28 _ => l.length - (intOf v28).toNat)
    case atStart => exact ⟨0, by omega, rfl, H6.out.1, by simpa [code9] using H6.out.2.1, H6.out.2.2⟩
    case round =>
      clear H6
      obtain ⟨i, hi, rfl, HW⟩ := hrel
      by_cases hlt : i < l.length
      · have q3 : decide ((i : Int) < (l.length : Int)) = true := decide_eq_true (by omega)
        have q3n : decide (i < l.length) = true := decide_eq_true hlt
        obtain ⟨ad, had, hcell⟩ := ReadsInt.at_ HR.out (i : Int) (by omega) (by omega)
        cases had
        rw [Int.toNat_natCast] at hcell
        have d0 := (HW.out.2.2.cell (World.block_lt_of_cell? w _ hcell)).trans hcell
        obtain ⟨x, hx⟩ : ∃ x, x = rd l (i : Int) := ⟨_, rfl⟩
        rw [← hx] at d0
        have hxl : l.take (i + 1) = l.take i ++ [x] := by
          rw [List.take_succ_eq_append_getElem hlt, hx, rd, Int.toNat_natCast, List.getD_eq_getElem?_getD, List.getElem?_eq_getElem hlt]; rfl
        have hxr : 0 ≤ x ∧ x ≤ 15 := HX.out x (List.mem_of_mem_take (i := i + 1) (by rw [hxl]; simp))
        clear hx hcell
        have HNS : Aside0 (_ ∧ _) := ⟨nx9_snoc (l.take i) fs x, code9_snoc (l.take i) fs x⟩
        rw [← hxl] at HNS
        have hnl := nx9_length (l.take i) fs
        have hnr := nx9_range (l.take i) fs 20971520 HFR.out (by omega)
        have hcl := code9_length (l.take i) fs
        rw [List.length_take] at hnr hcl
        rw [HFL.out] at hnl
        have hrep : l.length - i = (l.length - (i + 1)) + 1 := by omega
        obtain ⟨nx, hnx⟩ : ∃ nx, nx = nx9 fs (l.take i) := ⟨_, rfl⟩
        obtain ⟨cd, hcd⟩ : ∃ cd, cd = code9 fs (l.take i) := ⟨_, rfl⟩
        rw [← hnx] at HNS HW hnl hnr
        rw [← hcd] at HNS HW hcl
        obtain ⟨m, rfl⟩ := Int.eq_ofNat_of_zero_le hxr.1
        by_cases h0 : 0 < m
        · have q4 : decide (0 < (m : Int)) = true := decide_eq_true (by omega)
          have q4n : decide (0 < m) = true := decide_eq_true h0
          have hm15 : m ≤ 15 := by omega
          rw [if_pos (by omega), if_pos (by omega), Int.toNat_natCast] at HNS
          have hyr := getD_rng9 hnr m (by omega)
          have hy2 := nums_at nx m (by omega)
          obtain ⟨y, hy⟩ : ∃ y, y = nx.getD m 0 := ⟨_, rfl⟩
          rw [← hy] at hyr hy2 HNS
          have d1 : wr.cell? ⟨a, m, none⟩ = some (.int .i64 y) := (blk_cell HW.out.1 m).trans hy2
          have hne : a ≠ r := by have := HNE.out.1; omega
          obtain ⟨e1, e2⟩ := HW.out.2.1.at_ i (by rw [List.length_append, List.length_replicate, hcl]; omega)
          have hb2 : (wr.setCell ⟨r, i, none⟩ (.int .i64 y)).heap[a]? = some (.cells (nums .i64 nx).toArray 91 (0, 0)) := (heap_setCell_other _ _ _ _ hne).trans HW.out.1
          have d3 : (wr.setCell ⟨r, i, none⟩ (.int .i64 y)).cell? ⟨a, m, none⟩ = some (.int .i64 y) := (blk_cell hb2 m).trans hy2
          have d4 := blk_frozen hb2 m
          have HS2 : Aside0 (_ ∧ _ ∧ _) := ⟨hb2, HW.out.2.1.store i y, HW.out.2.2.setCell (p := ⟨r, i, none⟩) (by simp; have := HNE.out; omega) (.int .i64 y)⟩
          clear hxl hnl hnr hy2 hnx hcd hy hb2 hxr
          have HCL := Aside0.mk (And.intro hcl hrep)
          clear hcl hrep
          go_wp2_with fail
          go_roundw
          case rel =>
            refine ⟨i + 1, by omega, by go_num, ⟨?_, ?_, ?_⟩⟩
            · rw [HNS.out.1]
              refine (blk_set HS2.out.1 m _).trans ?_
              simp [nums, List.map_set]
            · have h1 := HS2.out.2.1.fr (S := (· = a)) ((Fr.refl _ _).set1 m (.int .i64 (y + 1))) (fun g hg hga => by
                rw [hga] at hg
                exact hne (by simpa [Value.ownBlock] using hg.symm))
              rw [HNS.out.2]
              have e : (cd ++ List.replicate (l.length - i) 0).set i y = cd ++ [y] ++ List.replicate (l.length - (i + 1)) 0 := by
                have hci : cd.length = i := by have := HCL.out.1; omega
                rw [HCL.out.2, List.replicate_succ, List.set_append_right _ _ (by omega), hci, Nat.sub_self]
                simp
              rw [e] at h1
              exact h1
            · exact HS2.out.2.2.setCell (p := ⟨a, m, none⟩) (by simp; have := HNE.out; omega) _
          case measure => simp [intOf]; omega
        · have q4 : decide (0 < (m : Int)) = false := decide_eq_false (by omega)
          have q4n : decide (0 < m) = false := decide_eq_false h0
          rw [if_neg (by omega), if_neg (by omega)] at HNS
          have HCL := Aside0.mk hrep
          clear hxl hnl hnr hnx hcd hxr hcl hrep
          go_wp2_with fail
          go_roundw
          case rel =>
            refine ⟨i + 1, by omega, by go_num, ⟨?_, ?_, HW.out.2.2⟩⟩
            · rw [HNS.out.1]; exact HW.out.1
            · have h1 := HW.out.2.1
              rw [HCL.out, List.replicate_succ] at h1
              rw [HNS.out.2, List.append_assoc]
              exact h1
          case measure => simp [intOf]; omega
      · have q3 : decide ((i : Int) < (l.length : Int)) = false := decide_eq_false (by omega)
        have q3n : decide (i < l.length) = false := decide_eq_false hlt
        obtain rfl : i = l.length := by omega
        go_wp2_with fail
        go_returns
        refine ⟨.slice (some ⟨r, 0, none⟩) l.length l.length, ?_, ?_, HW.out.2.2⟩
        · rw [HM.out]; rfl
        · have h1 := HW.out.2.1
          rw [List.take_length, Nat.sub_self, List.replicate_zero, List.append_nil, ← HCF.out] at h1
          exact h1
  · have HM : Aside0 (codesF l = []) := ⟨by unfold codesF; rw [if_neg hm]⟩
    obtain ⟨x, hx⟩ : ∃ x, x = mayF l := ⟨_, rfl⟩
    rw [← hx] at HK hm ⊢
    have q1 : (x != 0) = true := by simpa using hm
    clear hx hm
    go_enter Try.func74, Try.ntmps74
    go_wp2_with fail
    refine HK.out.mono ?_
    rintro e w1 ⟨rfl, hb1⟩
    go_wp2_with fail
    go_returns
    exact ⟨_, rfl, by rw [HM.out]; exact Row.nil _ _ _ _, hb1⟩
end Go.Proofs.Ytfoicjlkbkjfjaa.Hand
