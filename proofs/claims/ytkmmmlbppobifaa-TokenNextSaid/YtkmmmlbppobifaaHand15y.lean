/- binderylaw15.TokenNext answers true: walked by hand over the contracts of Next and Skip, and the document's. -/
import Derived.Test.YtkmmmlbppobifaaHand15g
import Derived.Test.YtkmmmlbppobifaaLem15z
namespace Go.Proofs.Ytkmmmlbppobifaa.Hand
open Go.RowKit Go.Proofs.YtkmmmlbppobifaaW.PrintWords Go.Proofs.YtkmmmlbppobifaaW.PrintLast Go.Proofs.YtkmmmlbppobifaaW.PrintMore Go.Proofs.Ytkmmmlbppobifaa.Num Go.Proofs.Ytkmmmlbppobifaa.P01a Go.Proofs.Ytkmmmlbppobifaa.P15r
set_option linter.unusedVariables false
set_option linter.unusedSimpArgs false
theorem rnext_calls (s : ByteArray) (hs : s.size ≤ 2000) (a : Int) (w : World) : Calls Try.prog 9 #[.string s, .int .i64 a] w fun e w' => e = .returned (.tuple #[.agg (nextF s a).2.cells, .int .i64 (nextF s a).1]) ∧ Below w.heap.size w w' := by
 obtain ⟨k, h⟩ := (next_ref s hs a).rounds
 exact binderyref15_Next.calls k s a _ _ _ _ _ _ w h
theorem rskip_calls (s : ByteArray) (hs : s.size ≤ 2000) (a : Int) (w : World) : Calls Try.prog 11 #[.string s, .int .i64 a] w fun e w' => e = .returned (.int .i64 ((skipN s a : Nat) : Int)) ∧ Below w.heap.size w w' := by
 obtain ⟨k, h⟩ := (skipf_ref s hs a).rounds
 exact binderyref15_Skip.calls k s a _ w h
set_option maxRecDepth 100000 in
set_option maxHeartbeats 8000000 in
theorem tokenNext_walk (s : ByteArray) (a : Int) (w : World) (ws : s.size ≤ 140737488351232) (hwf : (Lit.int .i64 a).wf = true) :
  Calls Try.prog 3 #[.string s, .int .i64 a] w fun e w' => e = .returned (.bool true) ∧ Below w.heap.size w w' := by
 have SG := Aside0.mk (fun W => signs_calls W)
 by_cases h1 : 2000 < s.size
 ·have q1 : decide ((2000 : Int) < (s.size : Int)) = true := decide_eq_true (by omega)
  clear hwf
  go_enter Try.func3, Try.ntmps3
  go_wp2_with (first | (go_at_call 7; (with_reducible refine (SG.out _).mono ?_); rintro e w1 ⟨rfl, hb1⟩))
  go_ret
  exact ⟨rfl, hb1⟩
 ·have q1 : decide ((2000 : Int) < (s.size : Int)) = false := decide_eq_false (by omega)
  have N1 := Aside0.mk (fun W => Next_calls W s a (by omega))
  have N2 := Aside0.mk (fun W => rnext_calls s (by omega) a W)
  have S1 := Aside0.mk (fun W => skip_calls W s a (s.size + 1) (by omega) (by omega))
  have S2 := Aside0.mk (fun W => rskip_calls s (by omega) a W)
  rw [show skipF s (s.size + 1) (clampN s a) = skipN s a from rfl] at S1
  generalize skipN s a = q at S1 S2
  generalize nextF s a = x at N1 N2
  obtain ⟨c, k, n, st, at_, en⟩ := x
  dsimp only at N1 N2
  clear hwf
  go_enter Try.func3, Try.ntmps3
  go_wp2_with (first | (go_at_call 7; (with_reducible refine (SG.out _).mono ?_); rintro e w5 ⟨rfl, hb5⟩) | (go_at_call 8; (with_reducible refine (N1.out _).mono ?_); rintro e w1 ⟨rfl, hb1⟩) | (go_at_call 9; (with_reducible refine (N2.out _).mono ?_); rintro e w2 ⟨rfl, hb2⟩; have A1 := blk_alloc (blk_below (heap_alloc_new w1 _) hb2) (.cells (tokC k n st at_ en) 24)) | (go_at_call 10; (with_reducible refine (S1.out _).mono ?_); rintro e w3 ⟨rfl, hb3⟩) | (go_at_call 11; (with_reducible refine (S2.out _).mono ?_); rintro e w4 ⟨rfl, hb4⟩) | (refine wpList_load_row rfl 24 _ rfl w1.heap.size rfl 24 _ (0, 0) _ A1 Try.underlying24 rfl tokInfo ?_))
  go_ret
  have d1 := below_alloc hb1 (.cells (tokC k n st at_ en) 24)
  have d2 := below_alloc (d1.trans (hb2.mono d1.size)) (.cells (tokC k n st at_ en) 24)
  have d3 := d2.trans (hb3.mono d2.size)
  have d4 := d3.trans (hb4.mono d3.size)
  exact ⟨rfl, d4.trans (hb5.mono d4.size)⟩
end Go.Proofs.Ytkmmmlbppobifaa.Hand
