/- Codes: Check, may; walked by hand. -/
import Derived.Test.YtcphjcggnblnkaaHand09b
namespace Go.Proofs.Ytcphjcggnblnkaa.Hand
open Go.RowKit Go.Proofs.YtcphjcggnblnkaaW.PrintWords Go.Proofs.YtcphjcggnblnkaaW.PrintLast Go.Proofs.YtcphjcggnblnkaaW.PrintMore Go.Proofs.Ytcphjcggnblnkaa.Num
set_option linter.unusedVariables false
set_option linter.unusedSimpArgs false
theorem infoInt9 : (Try.prog.info? 3).map (·.size) = some 1 := by kernel_rfl
theorem cellsInt9 : Try.prog.cellsOf 3 = 1 := by kernel_rfl
theorem eqItems_nums (d : Nat) (xs ys : List Int) (w : World) : ∀ is : List Nat, (∀ i ∈ is, i < xs.length ∧ i < ys.length) →
    (Op.eqItems (d + 1) 3 1 (nums .i64 xs).toArray (nums .i64 ys).toArray is).run Try.prog w = .ok (is.all fun i => xs.getD i 0 == ys.getD i 0) w
  | [], _ => by simp [Op.eqItems]
  | i :: is, h => by
    have h0 := h i (List.mem_cons_self ..)
    have ih := eqItems_nums d xs ys w is (fun j hj => h j (List.mem_cons_of_mem _ hj))
    have p1 := nums_at xs i h0.1
    have p2 := nums_at ys i h0.2
    have hp : ∀ zs : List Int, (nums .i64 zs).toArray[i]? = some (.int .i64 (zs.getD i 0)) → (part 3 (nums .i64 zs).toArray i).run Try.prog w = .ok (.int .i64 (zs.getD i 0)) w := by
      intro zs hz
      have hag : (isAgg 3).run Try.prog w = .ok false w := by
        unfold isAgg; rw [Sem.run_bind, run_underlying Try.underlying3 w]; rfl
      unfold part
      rw [Sem.run_bind, hag]
      simp only [Result.andThen_ok, Bool.false_eq_true, if_false]
      rw [hz]; rfl
    simp only [Op.eqItems, Nat.mul_one, Sem.run_bind, hp xs p1, hp ys p2, Result.andThen_ok, run_equalIn_int w d 3 .i64 .i64 (xs.getD i 0) (ys.getD i 0) Try.underlying3, List.all_cons]
    cases hq : (xs.getD i 0 == ys.getD i 0)
    · simp
    · simpa using ih
theorem eq_arr (cs : List Int) (hl : cs.length = 16) (w : World) : (Op.equalIn 10000 80 (.agg (nums .i64 cs).toArray) (.agg (nums .i64 zeros).toArray)).run Try.prog w = .ok (decide (cs = zeros)) w := by
  obtain ⟨i, hi, hz⟩ := Option.map_eq_some_iff.1 infoInt9
  rw [show (10000 : Nat) = 9999 + 1 from rfl, run_equalIn_array w 9999 _ _ Try.underlying80 hi, cellsInt9, show (9999 : Nat) = 9998 + 1 from rfl, eqItems_nums 9998 cs zeros w (List.range 16) (fun i hi => by rw [hl]; exact ⟨by simpa using hi, by simpa [zeros] using hi⟩)]
  congr 1
  rw [Bool.eq_iff_iff, List.all_eq_true, decide_eq_true_iff]
  constructor
  · intro h
    refine List.ext_getElem (by rw [hl]; rfl) (fun j h1 h2 => ?_)
    have := h j (by simpa using (by omega : j < 16))
    rw [beq_iff_eq, List.getD_eq_getElem?_getD, List.getElem?_eq_getElem h1, List.getD_eq_getElem?_getD, List.getElem?_eq_getElem h2] at this
    exact this
  · rintro rfl j hj
    simp
/-- What Check tells. -/
def chkF (l : List Int) : Int := if cntE l ≠ 0 then cntE l else if cntL l = zeros then 12 else if leftF (cntL l) < 0 then 7 else if 0 < leftF (cntL l) then 5 else 0
set_option maxRecDepth 100000 in
set_option maxHeartbeats 4000000 in
theorem check_calls (A : Option Addr) (n c : Nat) (l : List Int) (w : World) (hn : n = l.length) (hr : ReadsInt w .i64 A l.length l) (hc : n ≤ c) :
    Calls Try.prog 31 #[.slice A n c] w fun e w' => e = .returned (.int .i64 (chkF l)) ∧ Below w.heap.size w w' := by
  subst hn
  have HL := Aside0.mk (cntL_length l)
  have HR := Aside0.mk (cntL_range l)
  have HI := Aside0.mk (show (nums .i64 (cntL l)).length = 16 by rw [nums_length]; exact cntL_length l)
  obtain ⟨cs, hcs⟩ : ∃ cs, cs = cntL l := ⟨_, rfl⟩
  obtain ⟨ce, hce⟩ : ∃ ce, ce = cntE l := ⟨_, rfl⟩
  rw [← hcs] at HL HR HI
  have HC : Aside0 (chkF l = if ce ≠ 0 then ce else if cs = zeros then 12 else if leftF cs < 0 then 7 else if 0 < leftF cs then 5 else 0) := ⟨by unfold chkF; rw [← hcs, ← hce]⟩
  have HK := Aside0.mk (counted_calls A l.length c l w rfl hr hc)
  rw [← hcs, ← hce] at HK
  clear hcs hce hr

  go_enter Try.func31, Try.ntmps31
  go_wp2_with fail

  refine HK.out.mono ?_

  rintro e w1 ⟨rfl, hb1⟩
  have HB1 := Aside0.mk hb1
  clear hb1

  go_wp2_with (first | (refine wpList_store_mid rfl 80 _ _ rfl w1.heap.size 0 (nums .i64 cs).toArray rfl rfl (arr_there (cs := nums .i64 zeros) (t := 80) (heap_alloc_new w1 _) _ (by rw [List.size_toArray, HI.out]; rfl)) (by rw [infoArr]; simpa using HI.out.symm) (all_oneCell_toArray (nums_one _ _)) ?_) | (refine wpList_load_row rfl 80 _ rfl w1.heap.size rfl 80 (nums .i64 cs).toArray (0, 0) _ (setCells_blk (cs := nums .i64 zeros) (heap_alloc_new w1 _) (by rw [HI.out]; rfl)) Try.underlying80 rfl (by rw [infoArr]; simpa using HI.out.symm) ?_))
  have H2 : Aside0 (_ ∧ _) := ⟨setCells_blk (vs := nums .i64 cs) (cs := nums .i64 zeros) (t := 80) (heap_alloc_new w1 (.cells (nums .i64 zeros).toArray 80)) (by rw [HI.out]; rfl), (HB1.out.alloc HB1.out.size _).trans ((setCells_fr w1.heap.size (nums .i64 cs) 0 (w1.alloc (.cells (nums .i64 zeros).toArray 80))).below (by rintro k rfl; exact HB1.out.size) (by simp; have := HB1.out.size; omega))⟩
  refine (left_calls cs HL.out HR.out _).mono ?_
  rintro e w3 ⟨rfl, hb3⟩
  have H3 : Aside0 (_ ∧ _) := ⟨(Fr.of_below hb3 (fun _ => False)).blk H2.out.1 id, H2.out.2.trans (hb3.mono H2.out.2.size)⟩
  clear hb3 H2 HB1 HK
  obtain ⟨lf, hlf⟩ : ∃ lf, lf = leftF cs := ⟨_, rfl⟩
  rw [← hlf] at HC ⊢
  clear hlf
  by_cases h1 : ce ≠ 0
  · have q1 : (ce != 0) = true := by simpa using h1
    have HC2 : Aside0 (chkF l = ce) := ⟨by rw [HC.out, if_pos h1]⟩
    clear HC h1
    go_wp2_with fail
    go_returns
    exact ⟨by rw [HC2.out]; rfl, H3.out.2⟩
  · have q1 : (ce != 0) = false := by simpa using h1
    rw [if_neg h1] at HC
    clear h1
    have HEQ := Aside0.mk (eq_arr cs HL.out)
    by_cases h2 : cs = zeros
    · rw [if_pos h2] at HC
      have hq : ∀ W, (Op.equalIn 10000 80 (.agg (nums .i64 cs).toArray) (.agg #[.int .i64 0, .int .i64 0, .int .i64 0, .int .i64 0, .int .i64 0, .int .i64 0, .int .i64 0, .int .i64 0, .int .i64 0, .int .i64 0, .int .i64 0, .int .i64 0, .int .i64 0, .int .i64 0, .int .i64 0, .int .i64 0])).run Try.prog W = .ok true W := fun W => by
        have := HEQ.out W; rw [decide_eq_true h2] at this; exact this
      clear h2
      go_wp2_with (refine wpList_load_row rfl 80 _ rfl w1.heap.size rfl 80 (nums .i64 cs).toArray (0, 0) _ H3.out.1 Try.underlying80 rfl (by rw [infoArr]; simpa using HI.out.symm) ?_)
      go_returns
      exact ⟨by rw [HC.out]; rfl, H3.out.2⟩
    · rw [if_neg h2] at HC
      have hq : ∀ W, (Op.equalIn 10000 80 (.agg (nums .i64 cs).toArray) (.agg #[.int .i64 0, .int .i64 0, .int .i64 0, .int .i64 0, .int .i64 0, .int .i64 0, .int .i64 0, .int .i64 0, .int .i64 0, .int .i64 0, .int .i64 0, .int .i64 0, .int .i64 0, .int .i64 0, .int .i64 0, .int .i64 0])).run Try.prog W = .ok false W := fun W => by
        have := HEQ.out W; rw [decide_eq_false h2] at this; exact this
      clear h2
      by_cases h3 : lf < 0
      · have q3 : decide (lf < 0) = true := decide_eq_true h3
        rw [if_pos h3] at HC
        go_wp2_with (refine wpList_load_row rfl 80 _ rfl w1.heap.size rfl 80 (nums .i64 cs).toArray (0, 0) _ H3.out.1 Try.underlying80 rfl (by rw [infoArr]; simpa using HI.out.symm) ?_)
        go_returns
        exact ⟨by rw [HC.out]; rfl, H3.out.2⟩
      · have q3 : decide (lf < 0) = false := decide_eq_false h3
        rw [if_neg h3] at HC
        by_cases h4 : 0 < lf
        · have q4 : decide (0 < lf) = true := decide_eq_true h4
          rw [if_pos h4] at HC
          go_wp2_with (refine wpList_load_row rfl 80 _ rfl w1.heap.size rfl 80 (nums .i64 cs).toArray (0, 0) _ H3.out.1 Try.underlying80 rfl (by rw [infoArr]; simpa using HI.out.symm) ?_)
          go_returns
          exact ⟨by rw [HC.out]; rfl, H3.out.2⟩
        · have q4 : decide (0 < lf) = false := decide_eq_false h4
          rw [if_neg h4] at HC
          go_wp2_with (refine wpList_load_row rfl 80 _ rfl w1.heap.size rfl 80 (nums .i64 cs).toArray (0, 0) _ H3.out.1 Try.underlying80 rfl (by rw [infoArr]; simpa using HI.out.symm) ?_)
          go_returns
          exact ⟨by rw [HC.out]; rfl, H3.out.2⟩
/-- Why there may be no codes. -/
def mayF (l : List Int) : Int := if chkF l = 12 ∨ chkF l = 5 then 0 else chkF l
set_option maxRecDepth 100000 in
set_option maxHeartbeats 4000000 in
theorem may_calls (A : Option Addr) (c : Nat) (l : List Int) (w : World) (hr : ReadsInt w .i64 A l.length l) (hc : l.length ≤ c) :
    Calls Try.prog 44 #[.slice A l.length c] w fun e w' => e = .returned (.int .i64 (mayF l)) ∧ Below w.heap.size w w' := by
  have HK := Aside0.mk (check_calls A l.length c l w rfl hr hc)
  obtain ⟨x, hx⟩ : ∃ x, x = chkF l := ⟨_, rfl⟩
  have HM : Aside0 (mayF l = if x = 12 ∨ x = 5 then 0 else x) := ⟨by unfold mayF; rw [← hx]⟩
  rw [← hx] at HK
  clear hx hr
  by_cases h1 : x = 12
  · subst h1
    have HM2 : Aside0 (mayF l = 0) := ⟨by rw [HM.out, if_pos (.inl rfl)]⟩
    go_enter Try.func44, Try.ntmps44
    go_wp2_with fail
    refine HK.out.mono ?_
    rintro e w1 ⟨rfl, hb1⟩
    go_wp2_with fail
    go_returns
    exact ⟨by rw [HM2.out]; rfl, hb1⟩
  · by_cases h2 : x = 5
    · subst h2
      have HM2 : Aside0 (mayF l = 0) := ⟨by rw [HM.out, if_pos (.inr rfl)]⟩
      go_enter Try.func44, Try.ntmps44
      go_wp2_with fail
      refine HK.out.mono ?_
      rintro e w1 ⟨rfl, hb1⟩
      go_wp2_with fail
      go_returns
      exact ⟨by rw [HM2.out]; rfl, hb1⟩
    · have HM2 : Aside0 (mayF l = x) := ⟨by rw [HM.out, if_neg (fun h => h.elim h1 h2)]⟩
      have q1 : (x == 12) = false := beq_eq_false_iff_ne.2 h1
      have q2 : (x == 5) = false := beq_eq_false_iff_ne.2 h2
      go_enter Try.func44, Try.ntmps44
      go_wp2_with fail
      refine HK.out.mono ?_
      rintro e w1 ⟨rfl, hb1⟩
      go_wp2_with fail
      go_returns
      exact ⟨by rw [HM2.out]; rfl, hb1⟩
end Go.Proofs.Ytcphjcggnblnkaa.Hand
