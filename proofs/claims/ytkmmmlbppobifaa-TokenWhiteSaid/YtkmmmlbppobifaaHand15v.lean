/- binderylaw15.TokenWhite answers true: walked by hand over the contract of Next. -/
import Derived.Test.YtkmmmlbppobifaaHand15g
import Derived.Test.YtkmmmlbppobifaaLem15c
namespace Go.Proofs.Ytkmmmlbppobifaa.Hand
open Go.RowKit Go.Proofs.YtkmmmlbppobifaaW.PrintWords Go.Proofs.YtkmmmlbppobifaaW.PrintLast Go.Proofs.YtkmmmlbppobifaaW.PrintMore Go.Proofs.Ytkmmmlbppobifaa.Num Go.Proofs.Ytkmmmlbppobifaa.P01a
set_option linter.unusedVariables false
set_option linter.unusedSimpArgs false
abbrev whS : ByteArray := ⟨#[0, 9, 10, 12, 13, 32]⟩
theorem whS_all : ∀ k : Fin 6, (whS.extract k.val (k.val + 1)).size = 1 ∧ kF (bt (whS.extract k.val (k.val + 1)) ((0 : Nat) : Int)) = 0 := by decide +kernel
set_option maxRecDepth 100000 in
set_option maxHeartbeats 8000000 in
theorem tokenWhite_walk (t s : ByteArray) (a : Int) (w : World) (wt : t.size ≤ 140737488351232) (ws : s.size ≤ 140737488351232) (hwf : (Lit.int .u8 a).wf = true) :
    Calls Try.prog 6 #[.string t, .string s, .int .u8 a] w fun e w' => e = .returned (.bool true) ∧ Below w.heap.size w w' := by
  have ha : 0 ≤ a ∧ a ≤ 255 := by
    simp [Lit.wf, IntKind.min, IntKind.max, IntKind.bits, IntKind.signed] at hwf
    exact hwf
  clear hwf
  have SG := Aside0.mk (fun W => signs_calls W)
  by_cases h1 : 1000 < t.size
  · have q1 : decide ((1000 : Int) < (t.size : Int)) = true := decide_eq_true (by omega)
    go_enter Try.func6, Try.ntmps6
    go_wp2_with (first | (go_at_call 7; (with_reducible refine (SG.out _).mono ?_); rintro e w1 ⟨rfl, hb1⟩))
    go_ret
    exact ⟨rfl, hb1⟩
  · have q1 : decide ((1000 : Int) < (t.size : Int)) = false := decide_eq_false (by omega)
    by_cases h2 : 1000 < s.size
    · have q2 : decide ((1000 : Int) < (s.size : Int)) = true := decide_eq_true (by omega)
      go_enter Try.func6, Try.ntmps6
      go_wp2_with (first | (go_at_call 7; (with_reducible refine (SG.out _).mono ?_); rintro e w1 ⟨rfl, hb1⟩))
      go_ret
      exact ⟨rfl, hb1⟩
    · have q2 : decide ((1000 : Int) < (s.size : Int)) = false := decide_eq_false (by omega)
      obtain ⟨k, hk⟩ : ∃ k : Nat, (k : Int) = a % 6 := ⟨(a % 6).toNat, by omega⟩
      have hk6 : k < 6 := by omega
      obtain ⟨k1, hk1⟩ : ∃ k1, k1 = k + 1 := ⟨_, rfl⟩
      obtain ⟨v, hv⟩ : ∃ v, v = whS.extract k k1 := ⟨_, rfl⟩
      have hwa := whS_all ⟨k, hk6⟩
      rw [show whS.extract k (k + 1) = v by rw [hv, hk1]] at hwa
      have HV := Aside0.mk (And.intro hv (And.intro hk hwa))
      have e1 : (k : Int) + 1 = (k1 : Int) := by omega
      have i1 : (0 : Int) ≤ (k : Int) := by omega
      have i2 : (k : Int) ≤ (k1 : Int) := by omega
      have i3 : (k1 : Int) ≤ 6 := by omega
      have ht1 : Int.tmod a 6 = (k : Int) := by rw [hk]; exact Int.tmod_eq_emod_of_nonneg ha.1
      have hw1 : IntKind.i64.wrap (a % 6) = (k : Int) := by rw [← hk]; exact IntWalk.i64_in _ (by omega)
      have hw2 : IntKind.i64.wrap (k1 : Int) = (k1 : Int) := IntWalk.i64_in _ (by omega)
      clear hk hk1 hwa hv
      go_enter Try.func6, Try.ntmps6
      go_wp2_with fail
      rw [show (⟨#[0, 9, 10, 12, 13, 32]⟩ : ByteArray).extract k k1 = v from HV.out.1.symm]
      clear e1 i1 i2 i3 ht1 hw1 hw2
      go_loopg [10] (t.size + 1) (fun kq v10 wr => ∃ i : Nat, v10 = .int .i64 (i : Int) ∧ i ≤ t.size ∧ t.size < i + kq ∧ Aside0 (∀ j, j < i → bt t (j : Int) ≠ 10 ∧ bt t (j : Int) ≠ 13) ∧ wr = w)
      case atStart => exact ⟨0, rfl, Nat.zero_le _, by omega, ⟨fun j h => absurd h (by omega)⟩, rfl⟩
      case round =>
        obtain ⟨i, rfl, hi, hf, HJ, rfl⟩ := hrel
        cases gk with
        | zero => exact absurd hf (by omega)
        | succ kk =>
          by_cases hlt : i < t.size
          · have t1 : decide ((i : Int) < (t.size : Int)) = true := decide_eq_true (by omega)
            have t1n : decide (i < t.size) = true := decide_eq_true hlt
            have p0 : (0 : Int) ≤ (i : Int) := by omega
            have p1 : (i : Int) < (t.size : Int) := by omega
            have hx := nat_bt t i hlt
            obtain ⟨c, hc⟩ : ∃ c, c = bt t (i : Int) := ⟨_, rfl⟩
            rw [← hc] at hx
            have HC := Aside0.mk hc
            clear hc
            by_cases h10 : c = 10
            · have t2 : (c == 10) = true := beq_iff_eq.2 h10
              go_wp2_with (first | (go_at_call 7; (with_reducible refine (SG.out _).mono ?_); rintro e w3 ⟨rfl, hb3⟩))
              go_ret
              exact ⟨rfl, hb3⟩
            · have t2 : (c == 10) = false := beq_false_of_ne h10
              by_cases h13 : c = 13
              · have t3 : (c == 13) = true := beq_iff_eq.2 h13
                go_wp2_with (first | (go_at_call 7; (with_reducible refine (SG.out _).mono ?_); rintro e w3 ⟨rfl, hb3⟩))
                go_ret
                exact ⟨rfl, hb3⟩
              · have t3 : (c == 13) = false := beq_false_of_ne h13
                obtain ⟨i1, hi1⟩ : ∃ i1, i1 = i + 1 := ⟨_, rfl⟩
                have e5 : (i : Int) + 1 = (i1 : Int) := by omega
                have hw5 : IntKind.i64.wrap (i1 : Int) = (i1 : Int) := IntWalk.i64_in _ (by omega)
                have hil : i1 ≤ t.size ∧ t.size < i1 + kk ∧ t.size - i1 < t.size - i := by omega
                have HJ2 : Aside0 (∀ j, j < i1 → bt t (j : Int) ≠ 10 ∧ bt t (j : Int) ≠ 13) := ⟨fun j h => by
                  by_cases hj : j = i
                  · subst hj; rw [← HC.out]; exact ⟨h10, h13⟩
                  · exact HJ.out j (by omega)⟩
                clear hi1
                go_wp2_with fail
                go_roundg kk
                case measure => omega
                case rel => exact ⟨i1, rfl, hil.1, hil.2.1, HJ2, rfl⟩
          · have t1 : decide ((i : Int) < (t.size : Int)) = false := decide_eq_false (by omega)
            have t1n : decide (i < t.size) = false := decide_eq_false hlt
            obtain rfl : i = t.size := by omega
            have hn := white_next v t s HV.out.2.2.1 HV.out.2.2.2 HJ.out
            have hAs := whiteA_size v t HV.out.2.2.1
            have N1 := Aside0.mk (fun W => Next_calls W s 0 (by omega))
            have N2 := Aside0.mk (fun W => Next_calls W (whiteA v t ++ s) 0 (by rw [ByteArray.size_append]; omega))
            rw [hn] at N2
            have hok := nextF_ok s 0
            have hbad := nextF_bad s 0
            have hq := skipN_le s 0
            generalize skipN s 0 = q at hok hq
            generalize nextF s 0 = x at N1 N2 hok hbad
            obtain ⟨c, tk⟩ := x
            unfold shN at N2
            dsimp only at N1 N2 hok hbad
            have hv1 : v.size = 1 := HV.out.2.2.1
            clear hn HJ HV
            go_upto_region 12 with fail
            generalize hA : v ++ (⟨#[37]⟩ : ByteArray) ++ t ++ (⟨#[10]⟩ : ByteArray) ++ v = A
            rw [show whiteA v t = A from hA] at N2 hAs
            clear hA
            have hA2 : A.size ≤ 1004 := by omega
            clear hAs hv1
            by_cases hc : c = 0
            · subst hc
              rw [if_pos rfl] at N2
              obtain ⟨o1, o2, o3, o4⟩ := hok rfl
              obtain ⟨k, n, st, at_, en⟩ := tk
              dsimp only at o1 o2 o3 o4 N1 N2
              subst o1
              obtain ⟨z, hz1, hz3⟩ : ∃ z : Nat, en = (z : Int) ∧ z ≤ s.size := by
                by_cases hk : k = 0
                · obtain ⟨h, h'⟩ := o2 hk
                  injection h with _ _ _ _ h
                  exact ⟨q, h, hq⟩
                · obtain ⟨e, h, h', h''⟩ := o3 hk
                  exact ⟨e, h, h''⟩
              subst hz1
              clear o2 o3 o4 hok hbad
              go_upto_region 15 with (first | (go_at_call 8; (with_reducible refine (N1.out _).mono ?_); rintro e w1 ⟨rfl, hb1⟩) | (go_at_call 8; (with_reducible refine (N2.out _).mono ?_); rintro e w2 ⟨rfl, hb2⟩))
              obtain ⟨T1, hT1⟩ : ∃ x, x = w1.heap.size := ⟨_, rfl⟩
              obtain ⟨T2, hT2⟩ : ∃ x, x = w2.heap.size := ⟨_, rfl⟩
              have d1 := below_alloc hb1 (.cells (tokC k n st q z) 24)
              have d2 := below_alloc (d1.trans (hb2.mono d1.size)) (.cells (tokC k n st ((q : Int) + (A.size : Int)) ((z : Int) + (A.size : Int))) 24)
              have A1 := blk_alloc (blk_below (heap_alloc_new w1 _) hb2) (.cells (tokC k n st ((q : Int) + (A.size : Int)) ((z : Int) + (A.size : Int))) 24)
              have A2 := heap_alloc_new w2 (.cells (tokC k n st ((q : Int) + (A.size : Int)) ((z : Int) + (A.size : Int))) 24)
              have hT : T1 < T2 ∧ wr.heap.size ≤ T1 := by
                have h1 := hb2.size
                have h2 := hb1.size
                simp only [World.size_alloc] at h1
                omega
              rw [← hT1] at A1 ⊢
              rw [← hT2] at A2 ⊢
              generalize World.alloc w2 _ = W5 at d2 A1 A2 ⊢
              clear hb1 hb2 d1 hT1 hT2 N1 N2
              have c3 : W5.cell? ⟨T1, 3, none⟩ = some (.int .i64 (q : Int)) := blk_cell A1 3
              have c4 : W5.cell? ⟨T1, 4, none⟩ = some (.int .i64 (z : Int)) := blk_cell A1 4
              have f3 := blk_frozen A1 3
              have f4 := blk_frozen A1 4
              have B1 := blk_set A1 3 (.int .i64 ((q : Int) + (A.size : Int)))
              have g4 := blk_frozen B1 4
              have k4 := blk_cell B1 4
              have B2 : (W5.setCell ⟨T1, 3, none⟩ (.int .i64 ((q : Int) + (A.size : Int)))).heap[T2]? = _ := blk_far A2 (p := ⟨T1, 3, none⟩) (show T2 ≠ T1 by omega) _
              have C1 : ((W5.setCell ⟨T1, 3, none⟩ (.int .i64 ((q : Int) + (A.size : Int)))).setCell ⟨T1, 4, none⟩ (.int .i64 ((z : Int) + (A.size : Int)))).heap[T1]? = some (.cells (tokC k n st ((q : Int) + (A.size : Int)) ((z : Int) + (A.size : Int))) 24 (0, 0)) := blk_set B1 4 (.int .i64 ((z : Int) + (A.size : Int)))
              have C2 : ((W5.setCell ⟨T1, 3, none⟩ (.int .i64 ((q : Int) + (A.size : Int)))).setCell ⟨T1, 4, none⟩ (.int .i64 ((z : Int) + (A.size : Int)))).heap[T2]? = some (.cells (tokC k n st ((q : Int) + (A.size : Int)) ((z : Int) + (A.size : Int))) 24 (0, 0)) := blk_far B2 (p := ⟨T1, 4, none⟩) (show T2 ≠ T1 by omega) _
              have d3 := (d2.setCell (p := ⟨T1, 3, none⟩) hT.2 (.int .i64 ((q : Int) + (A.size : Int)))).setCell (p := ⟨T1, 4, none⟩) hT.2 (.int .i64 ((z : Int) + (A.size : Int)))
              have HD := Aside0.mk (And.intro C1 (And.intro C2 d3))
              clear A1 A2 d2 B1 B2 C1 C2 d3
              go_upto_region 16 with fail
              clear c3 c4 f3 f4 g4 k4 hT
              generalize World.setCell (World.setCell W5 _ _) _ _ = W7 at HD ⊢
              have C1 := HD.out.1
              have C2 := HD.out.2.1
              have y5 : ((0 : Int) == 0) = true := rfl
              go_wp2_with (first | (go_at_call 7; (with_reducible refine (SG.out _).mono ?_); rintro e w3 ⟨rfl, hb3⟩) | (refine wpList_load_row rfl 24 _ rfl T1 rfl 24 _ (0, 0) _ C1 Try.underlying24 rfl tokInfo ?_) | (refine wpList_load_row rfl 24 _ rfl T2 rfl 24 _ (0, 0) _ C2 Try.underlying24 rfl tokInfo ?_))
              go_ret
              exact ⟨rfl, HD.out.2.2.trans (hb3.mono HD.out.2.2.size)⟩
            · rw [if_neg hc] at N2
              obtain rfl := hbad hc
              clear hok hbad
              have t1 : (c == 0) = false := beq_false_of_ne hc
              go_wp2_with (first | (go_at_call 7; (with_reducible refine (SG.out _).mono ?_); rintro e w3 ⟨rfl, hb3⟩) | (go_at_call 8; (with_reducible refine (N1.out _).mono ?_); rintro e w1 ⟨rfl, hb1⟩) | (go_at_call 8; (with_reducible refine (N2.out _).mono ?_); rintro e w2 ⟨rfl, hb2⟩; have A1 := blk_alloc (blk_below (heap_alloc_new w1 _) hb2) (.cells (tokC 0 0 ⟨#[]⟩ 0 0) 24)) | (refine wpList_load_row rfl 24 _ rfl w1.heap.size rfl 24 _ (0, 0) _ A1 Try.underlying24 rfl tokInfo ?_))
              go_ret
              have d1 := below_alloc hb1 (.cells (tokC 0 0 ⟨#[]⟩ 0 0) 24)
              have d2 := below_alloc (d1.trans (hb2.mono d1.size)) (.cells (tokC 0 0 ⟨#[]⟩ 0 0) 24)
              exact ⟨rfl, d2.trans (hb3.mono d2.size)⟩
end Go.Proofs.Ytkmmmlbppobifaa.Hand
