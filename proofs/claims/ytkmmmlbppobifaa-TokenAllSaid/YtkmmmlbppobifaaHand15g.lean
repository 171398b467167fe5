/- The law's own 'signs': the page's examples of layer 15. -/
import Derived.Test.YtkmmmlbppobifaaHand15m
namespace Go.Proofs.Ytkmmmlbppobifaa.Hand
open Go.RowKit Go.Proofs.YtkmmmlbppobifaaW.PrintWords Go.Proofs.YtkmmmlbppobifaaW.PrintLast Go.Proofs.YtkmmmlbppobifaaW.PrintMore Go.Proofs.Ytkmmmlbppobifaa.Num Go.Proofs.Ytkmmmlbppobifaa.P01a
set_option linter.unusedVariables false
set_option linter.unusedSimpArgs false
theorem func_nil0 (d k : Nat) (cap : Array Value) (W : World) : (Go.Op.equalIn (d + 1) 33 (.func (.func k) #[] cap) .nilFunc).run Try.prog W = .ok false W := by
 rw [Go.Op.equalIn]
 simp [go_sem]
theorem func_nil (k : Nat) (cap : Array Value) (W : World) : (Go.binOp .eql 33 (.func (.func k) #[] cap) .nilFunc).run Try.prog W = .ok (.bool false) W := by
 have h := func_nil0 9999 k cap W
 have e : Go.Op.equal 33 (.func (.func k) #[] cap) .nilFunc = Go.Op.equalIn (9999 + 1) 33 (.func (.func k) #[] cap) .nilFunc := rfl
 simp only [go_sem, Go.binOp, e]
 simp [go_sem, h]
abbrev sgS : ByteArray := ⟨#[47, 65, 35, 52, 50, 32, 40, 120, 40, 121, 41, 41, 32, 60, 52, 97, 62, 32, 49, 50]⟩
abbrev sgN : ByteArray := ⟨#[37, 32, 97, 10, 32, 98]⟩
theorem sg1 : nextF sgS 0 = (0, ⟨2, 0, ⟨#[65, 66]⟩, 0, 5⟩) := by kernel_rfl
theorem sg2 : nextF sgS 5 = (0, ⟨3, 0, ⟨#[120, 40, 121, 41]⟩, 6, 12⟩) := by kernel_rfl
theorem sg3 : nextF sgS 12 = (0, ⟨3, 0, ⟨#[74]⟩, 13, 17⟩) := by kernel_rfl
theorem sg4 : nextF sgS 17 = (0, ⟨1, 12, ⟨#[]⟩, 18, 20⟩) := by kernel_rfl
theorem sg5 : cntL (toksN sgS) 0 = (4, 0) := by kernel_rfl
theorem sg6 : skipF sgN (sgN.size + 1) (clampN sgN 0) = 5 := by kernel_rfl
set_option maxRecDepth 100000 in
set_option maxHeartbeats 8000000 in
theorem signs_calls (w : World) :
  Calls Try.prog 7 #[] w fun e w' => e = .returned (.bool true) ∧ Below w.heap.size w w' := by
 have hfn := func_nil 26
 have n1 := Aside0.mk (fun W => Next_calls W sgS 0 (by decide))
 have n2 := Aside0.mk (fun W => Next_calls W sgS 5 (by decide))
 have n3 := Aside0.mk (fun W => Next_calls W sgS 12 (by decide))
 have n4 := Aside0.mk (fun W => Next_calls W sgS 17 (by decide))
 have n5 := Aside0.mk (fun W => Many_calls sgS (by decide) W)
 have n6 := Aside0.mk (fun W => skip_calls W sgN 0 (sgN.size + 1) (by decide) (by decide))
 rw [sg1] at n1
 rw [sg2] at n2
 rw [sg3] at n3
 rw [sg4] at n4
 rw [sg5] at n5
 rw [sg6] at n6
 go_enter Try.func7, Try.ntmps7
 go_wp2_with (first | (go_at_call 8; (with_reducible refine (n1.out _).mono ?_); rintro e w1 ⟨rfl, hb1⟩) | (go_at_call 8; (with_reducible refine (n2.out _).mono ?_); rintro e w2 ⟨rfl, hb2⟩) | (go_at_call 8; (with_reducible refine (n3.out _).mono ?_); rintro e w3 ⟨rfl, hb3⟩) | (go_at_call 8; (with_reducible refine (n4.out _).mono ?_); rintro e w4 ⟨rfl, hb4⟩) | (go_at_call 15; (with_reducible refine (n5.out _).mono ?_); rintro e w5 ⟨rfl, hb5⟩) | (go_at_call 12; (with_reducible refine (All_calls _ _).mono ?_); rintro e w6 ⟨rfl, rfl⟩; have A4 := blk_alloc (blk_below (heap_alloc_new w4 _) hb5) (.cells #[.string ⟨#[]⟩] 9); have A3 := blk_alloc (blk_below (blk_alloc (blk_below (heap_alloc_new w3 _) hb4) _) hb5) (.cells #[.string ⟨#[]⟩] 9); have A2 := blk_alloc (blk_below (blk_alloc (blk_below (blk_alloc (blk_below (heap_alloc_new w2 _) hb3) _) hb4) _) hb5) (.cells #[.string ⟨#[]⟩] 9); have A1 := blk_alloc (blk_below (blk_alloc (blk_below (blk_alloc (blk_below (blk_alloc (blk_below (heap_alloc_new w1 _) hb2) _) hb3) _) hb4) _) hb5) (.cells #[.string ⟨#[]⟩] 9); have B2 := blk_cell A2 2; have B3 := blk_cell A3 2; have D0 := blk_cell A4 0; have D1 := blk_cell A4 1; have D2 := blk_cell A4 2; have D3 := blk_cell A4 3; have D4 := blk_cell A4 4) | (go_at_call 10; (with_reducible refine (n6.out _).mono ?_); rintro e w7 ⟨rfl, hb7⟩) | (refine wpList_load_row rfl 24 _ rfl w1.heap.size rfl 24 _ (0, 0) _ A1 Try.underlying24 rfl tokInfo ?_) | (refine wpList_load_row rfl 24 _ rfl w4.heap.size rfl 24 _ (0, 0) _ A4 Try.underlying24 rfl tokInfo ?_))
 go_ret
 have d1 := below_alloc hb1 (.cells (tokC 2 0 ⟨#[65, 66]⟩ 0 5) 24)
 have d2 := below_alloc (d1.trans (hb2.mono d1.size)) (.cells (tokC 3 0 ⟨#[120, 40, 121, 41]⟩ 6 12) 24)
 have d3 := below_alloc (d2.trans (hb3.mono d2.size)) (.cells (tokC 3 0 ⟨#[74]⟩ 13 17) 24)
 have d4 := below_alloc (d3.trans (hb4.mono d3.size)) (.cells (tokC 1 12 ⟨#[]⟩ 18 20) 24)
 have d5 := below_alloc (d4.trans (hb5.mono d4.size)) (.cells #[.string ⟨#[]⟩] 9)
 exact ⟨rfl, d5.trans (hb7.mono d5.size)⟩
end Go.Proofs.Ytkmmmlbppobifaa.Hand
