/- Next of layer 15; walked by hand. -/
import Derived.Test.YtkmmmlbppobifaaHand15p
namespace Go.Proofs.Ytkmmmlbppobifaa.Hand
open Go.RowKit Go.Proofs.YtkmmmlbppobifaaW.PrintWords Go.Proofs.YtkmmmlbppobifaaW.PrintLast Go.Proofs.YtkmmmlbppobifaaW.PrintMore Go.Proofs.Ytkmmmlbppobifaa.Num Go.Proofs.Ytkmmmlbppobifaa.P01a
set_option linter.unusedVariables false
set_option linter.unusedSimpArgs false
structure Tok where
 kind : Int
 n : Int
 s : ByteArray
 at_ : Int
 end_ : Int
abbrev Tok.cells (t : Tok) : Array Value := tokC t.kind t.n t.s t.at_ t.end_
def skipN (s : ByteArray) (a : Int) : Nat := skipF s (s.size + 1) (clampN s a)
def nextF (s : ByteArray) (a : Int) : Int × Tok :=
 if skipN s a = s.size then (0, ⟨0, 0, ⟨#[]⟩, skipN s a, skipN s a⟩)
 else if (tokenF s (skipN s a)).1 = 0 then (0, ⟨(tokenF s (skipN s a)).2.1, (tokenF s (skipN s a)).2.2.1, (tokenF s (skipN s a)).2.2.2.1, skipN s a, (tokenF s (skipN s a)).2.2.2.2⟩)
 else ((tokenF s (skipN s a)).1, ⟨0, 0, ⟨#[]⟩, 0, 0⟩)
theorem skipF_le (s : ByteArray) : ∀ (k p : Nat), p ≤ s.size → skipF s k p ≤ s.size
 | 0, p, h => h
 | k + 1, p, h => by
  have h1 := spanN_le [0] s p h
  rw [skipF]
  split
  ·exact skipF_le s k _ (noteL_le s _ _ h1).2
  ·exact h1
theorem fr_row (w : World) (g : Nat) (cs : Array Value) : Fr w (w.setRow g cs) (· = g) := ⟨rfl, rfl, rfl, by simp, fun k _ hn => setRow_other w g k cs hn⟩
set_option maxRecDepth 100000 in
set_option maxHeartbeats 8000000 in
theorem Next_calls (w : World) (s : ByteArray) (a : Int) (hs : s.size ≤ 60000) :
  Calls Try.prog 8 #[.string s, .int .i64 a] w fun e w' => e = .returned (.tuple #[.agg (nextF s a).2.cells, .int .i64 (nextF s a).1]) ∧ Below w.heap.size w w' := by
 have KS := Aside0.mk (fun W => skip_calls W s a (s.size + 1) hs (by omega))
 have hsl := skipF_le s (s.size + 1) (clampN s a) (clampN_le s a)
 obtain ⟨p, hp⟩ : ∃ p, p = skipN s a := ⟨_, rfl⟩
 rw [show skipF s (s.size + 1) (clampN s a) = p from hp.symm] at KS hsl
 obtain ⟨r, hr⟩ : ∃ r, r = nextF s a := ⟨_, rfl⟩
 rw [← hr]
 unfold nextF at hr
 rw [← hp] at hr
 have HR := Aside0.mk hr
 clear hr hp
 obtain ⟨z, hz⟩ : ∃ z, z = w.heap.size := ⟨_, rfl⟩
 by_cases hlt : p = s.size
 ·subst hlt
  have hr := HR.out
  rw [if_pos rfl] at hr
  subst hr
  clear HR
  go_enter Try.func8, Try.ntmps8
  go_upto_region 1 with fail
  go_upto_region 3 with (first | (go_at_call 10; (with_reducible refine (KS.out _).mono ?_); rintro e W2 ⟨rfl, hd2⟩; have zb := blk_below (heap_alloc_new w _) hd2; have HB2 := Aside0.mk ((below_alloc (Below.refl w.heap.size w) (.cells (tokC 0 0 ⟨#[]⟩ 0 0) 24)).trans (hd2.mono (by simp))); clear hd2; rw [← hz] at zb ⊢; have HZ := Aside0.mk hz; clear hz))
  have zq := zb
  go_wp2_with (refine wpList_store_rowTo rfl 24 _ _ rfl rfl z (tokC 0 0 ⟨#[]⟩ (s.size : Int) (s.size : Int)) rfl rfl 24 _ zq tokInfo rfl (tok_one _ _ _ _ _) ?_)
  repeat (rw [Exit.noGoto_ret])
  show bodyPost _ _ _ _ _ _
  have hq := setRow_heap _ _ _ (tokC 0 0 ⟨#[]⟩ (s.size : Int) (s.size : Int)) _ _ zb
  exact bodyPost_ret (results_ct rfl _ _ z 24 (tokC 0 0 ⟨#[]⟩ (s.size : Int) (s.size : Int)) (0, 0) _ rfl hq Try.underlying24 rfl tokInfo) rfl ⟨rfl, HB2.out.trans ((fr_row _ z _).below (by rintro k rfl; have := HZ.out; omega) HB2.out.size)⟩
 ·have t1 : ((p : Int) == (s.size : Int)) = false := beq_false_of_ne (by omega)
  have t1n : (p == s.size) = false := beq_false_of_ne hlt
  have hps : p < s.size := by omega
  go_enter Try.func8, Try.ntmps8
  go_upto_region 1 with fail
  go_wp2_with (first | (go_at_call 10; (with_reducible refine (KS.out _).mono ?_); rintro e W2 ⟨rfl, hd2⟩; have zb := blk_below (heap_alloc_new w _) hd2; have HB2 := Aside0.mk ((below_alloc (Below.refl w.heap.size w) (.cells (tokC 0 0 ⟨#[]⟩ 0 0) 24)).trans (hd2.mono (by simp))); clear hd2; rw [← hz] at zb ⊢; have HZ := Aside0.mk hz; clear hz))
  obtain ⟨B, hB⟩ : ∃ B, B = W2.heap.size := ⟨_, rfl⟩
  have hB3 : B ≤ (W2.alloc (.cells #[.string s, .int .i64 (p : Int), .slice none 0 0] 47)).heap.size := by rw [hB]; simp
  have hsc : ScAt (W2.alloc (.cells #[.string s, .int .i64 (p : Int), .slice none 0 0] 47)) B W2.heap.size s p [] := ⟨_, heap_alloc_new _ _, Row.nil _ _ _ _⟩
  have KT := token_calls _ B _ s p hsc hs hps (by rw [hB]; simp)
  have HB3 := Aside0.mk (below_alloc HB2.out (.cells #[.string s, .int .i64 (p : Int), .slice none 0 0] 47))
  have zb3 := blk_alloc zb (.cells #[.string s, .int .i64 (p : Int), .slice none 0 0] 47)
  have hsz : w.heap.size < W2.heap.size := by have := blk_lt zb; have := HZ.out; omega
  rw [← hB] at KT hsz ⊢
  generalize World.alloc W2 _ = W3 at KT HB3 zb3 hB3 ⊢
  refine KT.mono ?_
  clear KT zb HB2 hsc hB KS
  generalize tokenF s p = tr at *
  obtain ⟨rc, rk, rn, rs, rp⟩ := tr
  rintro e W4 ⟨rfl, ⟨q6, o6, hs6, hq6⟩, hf6⟩
  dsimp only at hq6 HR
  have zb4 := sc_blk zb3 (by decide) (show z ≠ B by have := HZ.out; omega) hf6
  have HB4 := Aside0.mk (HB3.out.trans ((hf6.scBelow (B := B) (Nat.le_refl _) hB3).mono (by omega)))
  rw [if_neg hlt] at HR
  have hw3 := hf6.size
  clear zb3 HB3 hf6 hlt t1 t1n
  dsimp only
  by_cases h0 : rc = 0
  ·subst h0
   have hq := hq6 rfl
   subst hq
   have hr := HR.out
   rw [if_pos rfl] at hr
   subst hr
   clear HR hq6
   go_upto_region 8 with fail
   obtain ⟨T, hT⟩ : ∃ T, T = W4.heap.size := ⟨_, rfl⟩
   have hsz4 : B < T := by have := hs6.lt; omega
   have HB5 := below_alloc HB4.out (.cells (tokC rk rn rs 0 0) 24)
   have hs5 := hs6.below (below_alloc (Below.refl W4.heap.size W4) (.cells (tokC rk rn rs 0 0) 24))
   have t5 := heap_alloc_new W4 (.cells (tokC rk rn rs 0 0) 24)
   have z5 := blk_alloc zb4 (.cells (tokC rk rn rs 0 0) 24)
   rw [← hT] at t5 ⊢
   generalize World.alloc W4 _ = W5 at HB5 hs5 t5 z5 ⊢
   obtain ⟨A, na, ca, hna, hb, hr, c0, c1, c2, f1, f2⟩ := hs5.cells
   have g3 := blk_cell t5 3
   have k3 := blk_frozen t5 3
   have g4 := blk_cell t5 4
   have k4 := blk_frozen t5 4
   have t6 := blk_set t5 3 (.int .i64 (p : Int))
   have b6 : (W5.setCell ⟨T, 3, none⟩ (.int .i64 (p : Int))).heap[B]? = _ := blk_far hb (p := ⟨T, 3, none⟩) (show B ≠ T by omega) _
   have z6 : (W5.setCell ⟨T, 3, none⟩ (.int .i64 (p : Int))).heap[z]? = _ := blk_far z5 (p := ⟨T, 3, none⟩) (show z ≠ T by have := HZ.out; omega) _
   have e1 := blk_cell b6 1
   have l4 := blk_cell t6 4
   have m4 := blk_frozen t6 4
   have H6 := Aside0.mk (And.intro t6 z6)
   have HT5 := Aside0.mk (And.intro HB5 hT)
   clear hna hb hr c0 c2 f1 f2 t6 b6 z6 t5 z5 hs5 HB5 hT zb4 HB4 hs6
   go_region
   have t7 := blk_set H6.out.1 4 (.int .i64 (q6 : Int))
   have z7 : ((W5.setCell ⟨T, 3, none⟩ (.int .i64 (p : Int))).setCell ⟨T, 4, none⟩ (.int .i64 (q6 : Int))).heap[z]? = _ := blk_far H6.out.2 (p := ⟨T, 4, none⟩) (show z ≠ T by have := HZ.out; omega) _
   have B7 : Below w.heap.size w ((W5.setCell ⟨T, 3, none⟩ (.int .i64 (p : Int))).setCell ⟨T, 4, none⟩ (.int .i64 (q6 : Int))) := HT5.out.1.trans ((((Fr.refl W5 (· = T)).set1 (g := T) 3 _).set1 (g := T) 4 _).below (by rintro k rfl; omega) HT5.out.1.size)
   have t8 : ((W5.setCell ⟨T, 3, none⟩ (.int .i64 (p : Int))).setCell ⟨T, 4, none⟩ (.int .i64 (q6 : Int))).heap[T]? = some (.cells (tokC rk rn rs p q6) 24 (0, 0)) := t7
   clear t7 c1 g3 k3 g4 k4 e1 l4 m4 H6 HT5
   generalize World.setCell (World.setCell W5 _ _) _ _ = W7 at t8 z7 B7 ⊢
   replace t8 : (W7.drew).heap[T]? = _ := t8
   replace z7 : (W7.drew).heap[z]? = _ := z7
   replace B7 : Below w.heap.size w W7.drew := B7.trans ((show Drawn0 W7 W7.drew from ⟨⟨1, rfl⟩⟩).below.mono B7.size)
   generalize World.drew W7 = W8 at t8 z7 B7 ⊢
   have zq := z7
   have HB7 := Aside0.mk B7
   clear B7
   go_wp2_with (first | (refine wpList_load_row rfl 24 _ rfl T rfl 24 _ (0, 0) _ t8 Try.underlying24 rfl tokInfo ?_) | (refine wpList_store_rowTo rfl 24 _ _ rfl rfl z (tokC rk rn rs (p : Int) (q6 : Int)) rfl rfl 24 _ zq tokInfo rfl (tok_one _ _ _ _ _) ?_))
   repeat (rw [Exit.noGoto_ret])
   show bodyPost _ _ _ _ _ _
   have hq := setRow_heap _ _ _ (tokC rk rn rs (p : Int) (q6 : Int)) _ _ z7
   exact bodyPost_ret (results_ct rfl _ _ z 24 (tokC rk rn rs (p : Int) (q6 : Int)) (0, 0) _ rfl hq Try.underlying24 rfl tokInfo) rfl ⟨rfl, HB7.out.trans ((fr_row _ z _).below (by rintro k rfl; have := HZ.out; omega) HB7.out.size)⟩
  ·have t0 : (rc != 0) = true := bne_iff_ne.2 h0
   have hr := HR.out
   rw [if_neg h0] at hr
   subst hr
   clear HR hq6
   go_wp2_with fail
   refine (bad_calls rc _).mono ?_
   rintro e W5 ⟨rfl, hb5⟩
   have zb := blk_below (blk_alloc zb4 _) hb5
   have HB5 := Aside0.mk ((below_alloc HB4.out (.cells (tokC rk rn rs 0 0) 24)).trans (hb5.mono (below_alloc HB4.out (.cells (tokC rk rn rs 0 0) 24)).size))
   clear hb5 zb4 HB4
   have zq := zb
   go_wp2_with (refine wpList_store_rowTo rfl 24 _ _ rfl rfl z (tokC 0 0 ⟨#[]⟩ 0 0) rfl rfl 24 _ zq tokInfo rfl (tok_one _ _ _ _ _) ?_)
   repeat (rw [Exit.noGoto_ret])
   show bodyPost _ _ _ _ _ _
   have hq := setRow_heap _ _ _ (tokC 0 0 ⟨#[]⟩ 0 0) _ _ zb
   exact bodyPost_ret (results_ct rfl _ _ z 24 (tokC 0 0 ⟨#[]⟩ 0 0) (0, 0) _ rfl hq Try.underlying24 rfl tokInfo) rfl ⟨rfl, HB5.out.trans ((fr_row _ z _).below (by rintro k rfl; have := HZ.out; omega) HB5.out.size)⟩
end Go.Proofs.Ytkmmmlbppobifaa.Hand
