/- binderylaw15.TokenShift answers true: walked by hand over the contract of Next. -/
import Derived.Test.YtkmmmlbppobifaaHand15g
import Derived.Test.YtkmmmlbppobifaaLem15b
namespace Go.Proofs.Ytkmmmlbppobifaa.Hand
open Go.RowKit Go.Proofs.YtkmmmlbppobifaaW.PrintWords Go.Proofs.YtkmmmlbppobifaaW.PrintLast Go.Proofs.YtkmmmlbppobifaaW.PrintMore Go.Proofs.Ytkmmmlbppobifaa.Num Go.Proofs.Ytkmmmlbppobifaa.P01a
set_option linter.unusedVariables false
set_option linter.unusedSimpArgs false
set_option maxRecDepth 100000 in
set_option maxHeartbeats 8000000 in
theorem tokenShift_walk (t s : ByteArray) (a : Int) (w : World) (wt : t.size ≤ 140737488351232) (ws : s.size ≤ 140737488351232) (hwf : (Lit.int .u16 a).wf = true) :
    Calls Try.prog 5 #[.string t, .string s, .int .u16 a] w fun e w' => e = .returned (.bool true) ∧ Below w.heap.size w w' := by
  have ha : 0 ≤ a ∧ a ≤ 65535 := by
    simp [Lit.wf, IntKind.min, IntKind.max, IntKind.bits, IntKind.signed] at hwf
    exact hwf
  clear hwf
  have SG := Aside0.mk (fun W => signs_calls W)
  by_cases h1 : 1000 < t.size
  · have q1 : decide ((1000 : Int) < (t.size : Int)) = true := decide_eq_true (by omega)
    go_enter Try.func5, Try.ntmps5
    go_wp2_with (first | (go_at_call 7; (with_reducible refine (SG.out _).mono ?_); rintro e w1 ⟨rfl, hb1⟩))
    go_ret
    exact ⟨rfl, hb1⟩
  · have q1 : decide ((1000 : Int) < (t.size : Int)) = false := decide_eq_false (by omega)
    by_cases h2 : 1000 < s.size
    · have q2 : decide ((1000 : Int) < (s.size : Int)) = true := decide_eq_true (by omega)
      go_enter Try.func5, Try.ntmps5
      go_wp2_with (first | (go_at_call 7; (with_reducible refine (SG.out _).mono ?_); rintro e w1 ⟨rfl, hb1⟩))
      go_ret
      exact ⟨rfl, hb1⟩
    · have q2 : decide ((1000 : Int) < (s.size : Int)) = false := decide_eq_false (by omega)
      obtain ⟨i, hi⟩ : ∃ i : Nat, (i : Int) = a % ((s.size : Int) + 1) := ⟨(a % ((s.size : Int) + 1)).toNat, by have := Int.emod_nonneg a (show (s.size : Int) + 1 ≠ 0 by omega); omega⟩
      have hil : i ≤ s.size := by have := Int.emod_lt_of_pos a (show (0 : Int) < (s.size : Int) + 1 by omega); omega
      have hz : ((s.size : Int) + 1 == 0) = false := beq_false_of_ne (by omega)
      have H := Sh.cat t s
      have hsz : (t ++ s).size = t.size + s.size := H.size
      have hN := H.next i hil
      obtain ⟨m, hm⟩ : ∃ m, m = t.size + i := ⟨_, rfl⟩
      rw [← hm] at hN
      have N1 := Aside0.mk (fun W => Next_calls W s (i : Int) (by omega))
      have N2 := Aside0.mk (fun W => Next_calls W (t ++ s) (m : Int) (by omega))
      rw [hN] at N2
      have hok := nextF_ok s (i : Int)
      have hbad := nextF_bad s (i : Int)
      have hq := skipN_le s (i : Int)
      generalize skipN s (i : Int) = q at hok hq
      generalize nextF s (i : Int) = x at N1 N2 hok hbad
      obtain ⟨c, tk⟩ := x
      unfold shN at N2
      dsimp only at N1 N2 hok hbad
      have e1 : (t.size : Int) + (i : Int) = (m : Int) := by omega
      have hw1 : IntKind.i64.wrap (a % ((s.size : Int) + 1)) = (i : Int) := by rw [← hi]; exact IntWalk.i64_in _ (by omega)
      have ht1 : Int.tmod a ((s.size : Int) + 1) = (i : Int) := by rw [hi]; exact Int.tmod_eq_emod_of_nonneg ha.1
      have hmb : m ≤ 2000 := by omega
      have HT := Aside0.mk (And.intro hi (And.intro hil (And.intro hsz hm)))
      clear hN hi hil hsz hm H
      by_cases hc : c = 0
      · subst hc
        rw [if_pos rfl] at N2
        obtain ⟨o1, o2, o3, o4⟩ := hok rfl
        obtain ⟨k, n, st, at_, en⟩ := tk
        dsimp only at o1 o2 o3 o4 N1 N2
        subst o1
        obtain ⟨z, hz1, hz2, hz3, hz4⟩ : ∃ z : Nat, en = (z : Int) ∧ q ≤ z ∧ z ≤ s.size ∧ (q < z ↔ k ≠ 0) := by
          by_cases hk : k = 0
          · obtain ⟨h, h'⟩ := o2 hk
            injection h with _ _ _ _ h
            exact ⟨q, h, Nat.le_refl _, hq, ⟨fun h => absurd h (by omega), fun h => absurd hk h⟩⟩
          · obtain ⟨e, h, h', h''⟩ := o3 hk
            exact ⟨e, h, by omega, h'', ⟨fun _ => hk, fun _ => h'⟩⟩
        subst hz1
        clear o2 o3 o4 hok hbad
        have HZ := Aside0.mk hz4
        clear hz4
        go_enter Try.func5, Try.ntmps5
        go_upto_region 10 with (first | (go_at_call 8; (with_reducible refine (N1.out _).mono ?_); rintro e w1 ⟨rfl, hb1⟩) | (go_at_call 8; (with_reducible refine (N2.out _).mono ?_); rintro e w2 ⟨rfl, hb2⟩))
        obtain ⟨T1, hT1⟩ : ∃ x, x = w1.heap.size := ⟨_, rfl⟩
        obtain ⟨T2, hT2⟩ : ∃ x, x = w2.heap.size := ⟨_, rfl⟩
        have d1 := below_alloc hb1 (.cells (tokC k n st q z) 24)
        have d2 := below_alloc (d1.trans (hb2.mono d1.size)) (.cells (tokC k n st ((q : Int) + (t.size : Int)) ((z : Int) + (t.size : Int))) 24)
        have A1 := blk_alloc (blk_below (heap_alloc_new w1 _) hb2) (.cells (tokC k n st ((q : Int) + (t.size : Int)) ((z : Int) + (t.size : Int))) 24)
        have A2 := heap_alloc_new w2 (.cells (tokC k n st ((q : Int) + (t.size : Int)) ((z : Int) + (t.size : Int))) 24)
        have hT : T1 < T2 ∧ w.heap.size ≤ T1 := by
          have h1 := hb2.size
          have h2 := hb1.size
          simp only [World.size_alloc] at h1
          omega
        rw [← hT1] at A1 ⊢
        rw [← hT2] at A2 ⊢
        generalize World.alloc w2 _ = W5 at d2 A1 A2 ⊢
        clear hb1 hb2 d1 hT1 hT2 N1 N2 hw1 ht1 hz e1
        have c3 : W5.cell? ⟨T1, 3, none⟩ = some (.int .i64 (q : Int)) := blk_cell A1 3
        have c4 : W5.cell? ⟨T1, 4, none⟩ = some (.int .i64 (z : Int)) := blk_cell A1 4
        have f3 := blk_frozen A1 3
        have f4 := blk_frozen A1 4
        have B1 := blk_set A1 3 (.int .i64 ((q : Int) + (t.size : Int)))
        have g4 := blk_frozen B1 4
        have k4 := blk_cell B1 4
        have B2 : (W5.setCell ⟨T1, 3, none⟩ (.int .i64 ((q : Int) + (t.size : Int)))).heap[T2]? = _ := blk_far A2 (p := ⟨T1, 3, none⟩) (show T2 ≠ T1 by omega) _
        have C1 : ((W5.setCell ⟨T1, 3, none⟩ (.int .i64 ((q : Int) + (t.size : Int)))).setCell ⟨T1, 4, none⟩ (.int .i64 ((z : Int) + (t.size : Int)))).heap[T1]? = some (.cells (tokC k n st ((q : Int) + (t.size : Int)) ((z : Int) + (t.size : Int))) 24 (0, 0)) := blk_set B1 4 (.int .i64 ((z : Int) + (t.size : Int)))
        have C2 : ((W5.setCell ⟨T1, 3, none⟩ (.int .i64 ((q : Int) + (t.size : Int)))).setCell ⟨T1, 4, none⟩ (.int .i64 ((z : Int) + (t.size : Int)))).heap[T2]? = some (.cells (tokC k n st ((q : Int) + (t.size : Int)) ((z : Int) + (t.size : Int))) 24 (0, 0)) := blk_far B2 (p := ⟨T1, 4, none⟩) (show T2 ≠ T1 by omega) _
        have d3 := (d2.setCell (p := ⟨T1, 3, none⟩) hT.2 (.int .i64 ((q : Int) + (t.size : Int)))).setCell (p := ⟨T1, 4, none⟩) hT.2 (.int .i64 ((z : Int) + (t.size : Int)))
        have HD := Aside0.mk (And.intro C1 (And.intro C2 d3))
        clear A1 A2 d2 B1 B2 C1 C2 d3
        go_upto_region 11 with fail
        clear c3 c4 f3 f4 g4 k4 hT
        generalize World.setCell (World.setCell W5 _ _) _ _ = W7 at HD ⊢
        have C1 := HD.out.1
        have C2 := HD.out.2.1
        have x0 : W7.cell? ⟨T1, 0, none⟩ = some (.int .i64 k) := blk_cell C1 0
        have x3 : W7.cell? ⟨T1, 3, none⟩ = some (.int .i64 ((q : Int) + (t.size : Int))) := blk_cell C1 3
        have x4 : W7.cell? ⟨T1, 4, none⟩ = some (.int .i64 ((z : Int) + (t.size : Int))) := blk_cell C1 4
        have y1 : decide ((q : Int) + (t.size : Int) ≤ (z : Int) + (t.size : Int)) = true := decide_eq_true (by omega)
        have y2 : decide ((z : Int) + (t.size : Int) ≤ (t.size : Int) + (s.size : Int)) = true := decide_eq_true (by omega)
        obtain ⟨bb, hbb, y3⟩ : ∃ bb : Bool, (k != 0) = bb ∧ decide ((q : Int) + (t.size : Int) < (z : Int) + (t.size : Int)) = bb := by
          refine ⟨_, rfl, ?_⟩
          rw [Bool.eq_iff_iff, decide_eq_true_iff, bne_iff_ne]
          exact ⟨fun h => HZ.out.1 (by omega), fun h => by have := HZ.out.2 h; omega⟩
        have y4 : decide (q < z) = bb := by rw [← y3, decide_eq_decide]; omega
        clear HZ
        go_wp2_with (first | (go_at_call 7; (with_reducible refine (SG.out _).mono ?_); rintro e w3 ⟨rfl, hb3⟩) | (refine wpList_load_row rfl 24 _ rfl T1 rfl 24 _ (0, 0) _ C1 Try.underlying24 rfl tokInfo ?_) | (refine wpList_load_row rfl 24 _ rfl T2 rfl 24 _ (0, 0) _ C2 Try.underlying24 rfl tokInfo ?_))
        go_ret
        exact ⟨rfl, HD.out.2.2.trans (hb3.mono HD.out.2.2.size)⟩
      · rw [if_neg hc] at N2
        obtain rfl := hbad hc
        clear hok hbad
        have t1 : (c != 0) = true := bne_iff_ne.2 hc
        go_enter Try.func5, Try.ntmps5
        go_wp2_with (first | (go_at_call 7; (with_reducible refine (SG.out _).mono ?_); rintro e w3 ⟨rfl, hb3⟩) | (go_at_call 8; (with_reducible refine (N1.out _).mono ?_); rintro e w1 ⟨rfl, hb1⟩) | (go_at_call 8; (with_reducible refine (N2.out _).mono ?_); rintro e w2 ⟨rfl, hb2⟩; have A1 := blk_alloc (blk_below (heap_alloc_new w1 _) hb2) (.cells (tokC 0 0 ⟨#[]⟩ 0 0) 24)) | (refine wpList_load_row rfl 24 _ rfl w1.heap.size rfl 24 _ (0, 0) _ A1 Try.underlying24 rfl tokInfo ?_))
        go_ret
        have d1 := below_alloc hb1 (.cells (tokC 0 0 ⟨#[]⟩ 0 0) 24)
        have d2 := below_alloc (d1.trans (hb2.mono d1.size)) (.cells (tokC 0 0 ⟨#[]⟩ 0 0) 24)
        exact ⟨rfl, d2.trans (hb3.mono d2.size)⟩
end Go.Proofs.Ytkmmmlbppobifaa.Hand
