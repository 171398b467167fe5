/- The scanner of layer 15: token; walked by hand. -/
import Derived.Test.YtkmmmlbppobifaaHand15w
namespace Go.Proofs.Ytkmmmlbppobifaa.Hand
open Go.RowKit Go.Proofs.YtkmmmlbppobifaaW.PrintWords Go.Proofs.YtkmmmlbppobifaaW.PrintLast Go.Proofs.YtkmmmlbppobifaaW.PrintMore Go.Proofs.Ytkmmmlbppobifaa.Num Go.Proofs.Ytkmmmlbppobifaa.P01a
set_option linter.unusedVariables false
set_option linter.unusedSimpArgs false
def twiceB (s : ByteArray) (p : Nat) : Bool := decide (p + 1 < s.size ∧ bt s ((p + 1 : Nat) : Int) = bt s (p : Int))
def tokenF (s : ByteArray) (p : Nat) : Int × Int × Int × ByteArray × Nat :=
 if bt s (p : Int) = 91 then (0, 4, 0, ⟨#[]⟩, p + 1)
 else if bt s (p : Int) = 93 then (0, 5, 0, ⟨#[]⟩, p + 1)
 else if bt s (p : Int) = 47 then tokOf 2 (nameF s s.size (p + 1) [])
 else if bt s (p : Int) = 40 then tokOf 3 (textF s s.size (p + 1) 1 [])
 else if bt s (p : Int) = 60 then (if twiceB s p = true then (0, 6, 0, ⟨#[]⟩, p + 2) else tokOf 3 (hexL s s.size (p + 1) [] (-1)))
 else if bt s (p : Int) = 62 then (if twiceB s p = true then (0, 7, 0, ⟨#[]⟩, p + 2) else (4, 0, 0, ⟨#[]⟩, 0))
 else if bt s (p : Int) = 41 ∨ bt s (p : Int) = 123 ∨ bt s (p : Int) = 125 then (4, 0, 0, ⟨#[]⟩, 0)
 else wordF s p
set_option maxRecDepth 100000 in
set_option maxHeartbeats 8000000 in
theorem token_calls (w : World) (B g : Nat) (s : ByteArray) (p : Nat) (h : ScAt w B g s p []) (hs : s.size ≤ 60000) (hp : p < s.size) (hB : B ≤ w.heap.size) :
  Calls Try.prog 16 #[.pointer (some ⟨g, 0, none⟩)] w (TkPost B g s w (tokenF s p)) := by
 have HT := Aside0.mk (Tz.new h)
 obtain ⟨z, hz⟩ : ∃ z, z = w.heap.size := ⟨_, rfl⟩
 obtain ⟨⟨rc, rk, rn, rs, rp⟩, hres⟩ : ∃ r, r = tokenF s p := ⟨_, rfl⟩
 rw [← hres]
 unfold tokenF at hres
 have HR := Aside0.mk hres
 obtain ⟨b2, hb2⟩ : ∃ b, b = twiceB s p := ⟨_, rfl⟩
 have hx := nat_bt s p hp
 have hcr := bt_range s (p : Int)
 have p1' : (0 : Int) ≤ (p : Int) := by omega
 have p2' : (p : Int) < (s.size : Int) := by omega
 obtain ⟨c, hc⟩ : ∃ c, c = bt s (p : Int) := ⟨_, rfl⟩
 rw [← hc] at hx hcr
 have HC := Aside0.mk (And.intro hc hb2)
 clear h hres hc hb2
 go_enter Try.func16, Try.ntmps16
 go_upto_region 1 with fail
 rw [← hz] at HT ⊢
 clear hz
 generalize World.alloc w _ = W0 at HT ⊢
 obtain ⟨A, na, ca, hna, hb, hr, c0, c1, c2, f1, f2⟩ := HT.out.sc.cells
 clear hna hb hr f1 f2
 go_upto_region 2 with (first | (go_quiet (fail)))
 --CASES
 have HT2 := Aside0.mk (HT.out.drawn (W1 := W0.drewN nq) ⟨_, rfl⟩)
 have hBW : B ≤ (W0.drewN nq).heap.size := Nat.le_trans hB HT2.out.fr.size
 generalize World.drewN W0 nq = W2 at HT2 hBW ⊢
 clear HT c0 c1 c2 hx p1' p2' A na ca
 by_cases h91 : c = 91
 ·have t91 : (c == 91) = true := beq_iff_eq.2 h91
  have hr := HR.out
  rw [← HC.out.1] at hr
  rw [if_pos h91] at hr
  have KC : Aside0 (Calls Try.prog 27 #[.pointer (some ⟨g, 0, none⟩), .int .i64 4, .int .i64 1] W2 (TkPost B g s W2 (rc, rk, rn, rs, rp))) := ⟨by rw [hr]; exact sign_calls W2 B g s p [] 4 1 HT2.out.sc (by omega) (by decide)⟩
  clear HR HC hr hBW
  go_wp2_with fail
  refine KC.out.mono ?_
  rintro e W7 ⟨rfl, ⟨q6, o6, hs6, hq6⟩, hf6⟩
  have HT7 := Aside0.mk (HT2.out.step hs6 hf6)
  have HQ6 := Aside0.mk hq6
  have zb := HT7.out.zb
  have HP := HT7.out.put (tokC rk rn rs 0 0)
  clear hs6 hf6 hq6 KC
  try dsimp only
  go_wp2_with (refine wpList_store_rowTo rfl 24 _ _ rfl rfl z (tokC rk rn rs 0 0) rfl rfl 24 _ zb tokInfo rfl (tok_one _ _ _ _ _) ?_)
  repeat (rw [Exit.noGoto_ret])
  exact bodyPost_ret (results_ct rfl _ _ z 24 (tokC rk rn rs 0 0) (0, 0) _ rfl HP.1 Try.underlying24 rfl tokInfo) rfl (TkPost.mk_ rfl HP.2.1 HQ6.out HP.2.2)
 have t91 : (c == 91) = false := beq_false_of_ne h91
 by_cases h93 : c = 93
 ·have t93 : (c == 93) = true := beq_iff_eq.2 h93
  have hr := HR.out
  rw [← HC.out.1] at hr
  rw [if_neg h91, if_pos h93] at hr
  have KC : Aside0 (Calls Try.prog 27 #[.pointer (some ⟨g, 0, none⟩), .int .i64 5, .int .i64 1] W2 (TkPost B g s W2 (rc, rk, rn, rs, rp))) := ⟨by rw [hr]; exact sign_calls W2 B g s p [] 5 1 HT2.out.sc (by omega) (by decide)⟩
  clear HR HC hr hBW
  go_wp2_with fail
  refine KC.out.mono ?_
  rintro e W7 ⟨rfl, ⟨q6, o6, hs6, hq6⟩, hf6⟩
  have HT7 := Aside0.mk (HT2.out.step hs6 hf6)
  have HQ6 := Aside0.mk hq6
  have zb := HT7.out.zb
  have HP := HT7.out.put (tokC rk rn rs 0 0)
  clear hs6 hf6 hq6 KC
  try dsimp only
  go_wp2_with (refine wpList_store_rowTo rfl 24 _ _ rfl rfl z (tokC rk rn rs 0 0) rfl rfl 24 _ zb tokInfo rfl (tok_one _ _ _ _ _) ?_)
  repeat (rw [Exit.noGoto_ret])
  exact bodyPost_ret (results_ct rfl _ _ z 24 (tokC rk rn rs 0 0) (0, 0) _ rfl HP.1 Try.underlying24 rfl tokInfo) rfl (TkPost.mk_ rfl HP.2.1 HQ6.out HP.2.2)
 have t93 : (c == 93) = false := beq_false_of_ne h93
 by_cases h47 : c = 47
 ·have t47 : (c == 47) = true := beq_iff_eq.2 h47
  have hr := HR.out
  rw [← HC.out.1] at hr
  rw [if_neg h91, if_neg h93, if_pos h47] at hr
  have KC : Aside0 (Calls Try.prog 28 #[.pointer (some ⟨g, 0, none⟩)] W2 (TkPost B g s W2 (rc, rk, rn, rs, rp))) := ⟨by rw [hr]; exact name_calls W2 B g s p s.size HT2.out.sc hs hp hBW (by omega)⟩
  clear HR HC hr hBW
  go_wp2_with fail
  refine KC.out.mono ?_
  rintro e W7 ⟨rfl, ⟨q6, o6, hs6, hq6⟩, hf6⟩
  have HT7 := Aside0.mk (HT2.out.step hs6 hf6)
  have HQ6 := Aside0.mk hq6
  have zb := HT7.out.zb
  have HP := HT7.out.put (tokC rk rn rs 0 0)
  clear hs6 hf6 hq6 KC
  try dsimp only
  go_wp2_with (refine wpList_store_rowTo rfl 24 _ _ rfl rfl z (tokC rk rn rs 0 0) rfl rfl 24 _ zb tokInfo rfl (tok_one _ _ _ _ _) ?_)
  repeat (rw [Exit.noGoto_ret])
  exact bodyPost_ret (results_ct rfl _ _ z 24 (tokC rk rn rs 0 0) (0, 0) _ rfl HP.1 Try.underlying24 rfl tokInfo) rfl (TkPost.mk_ rfl HP.2.1 HQ6.out HP.2.2)
 have t47 : (c == 47) = false := beq_false_of_ne h47
 by_cases h40 : c = 40
 ·have t40 : (c == 40) = true := beq_iff_eq.2 h40
  have hr := HR.out
  rw [← HC.out.1] at hr
  rw [if_neg h91, if_neg h93, if_neg h47, if_pos h40] at hr
  have KC : Aside0 (Calls Try.prog 29 #[.pointer (some ⟨g, 0, none⟩)] W2 (TkPost B g s W2 (rc, rk, rn, rs, rp))) := ⟨by rw [hr]; exact text_calls W2 B g s p s.size HT2.out.sc hs hp hBW (by omega)⟩
  clear HR HC hr hBW
  go_wp2_with fail
  refine KC.out.mono ?_
  rintro e W7 ⟨rfl, ⟨q6, o6, hs6, hq6⟩, hf6⟩
  have HT7 := Aside0.mk (HT2.out.step hs6 hf6)
  have HQ6 := Aside0.mk hq6
  have zb := HT7.out.zb
  have HP := HT7.out.put (tokC rk rn rs 0 0)
  clear hs6 hf6 hq6 KC
  try dsimp only
  go_wp2_with (refine wpList_store_rowTo rfl 24 _ _ rfl rfl z (tokC rk rn rs 0 0) rfl rfl 24 _ zb tokInfo rfl (tok_one _ _ _ _ _) ?_)
  repeat (rw [Exit.noGoto_ret])
  exact bodyPost_ret (results_ct rfl _ _ z 24 (tokC rk rn rs 0 0) (0, 0) _ rfl HP.1 Try.underlying24 rfl tokInfo) rfl (TkPost.mk_ rfl HP.2.1 HQ6.out HP.2.2)
 have t40 : (c == 40) = false := beq_false_of_ne h40
 by_cases h60 : c = 60
 ·have t60 : (c == 60) = true := beq_iff_eq.2 h60
  by_cases htw : twiceB s p = true
  ·have hr0 := 0
   have hr := HR.out
   rw [← HC.out.1] at hr
   rw [if_neg h91, if_neg h93, if_neg h47, if_neg h40, if_pos h60, if_pos htw] at hr
   clear HR HC hBW hr0
   have KT := Aside0.mk (twice_calls W2 B g s p [] HT2.out.sc (by omega) hp)
   rw [show decide (p + 1 < s.size ∧ bt s ((p + 1 : Nat) : Int) = bt s (p : Int)) = true from htw] at KT
   go_wp2_with fail
   refine KT.out.mono ?_
   rintro e W3 ⟨rfl, hd3⟩
   have HT3 := Aside0.mk (HT2.out.drawn hd3)
   have hBW3 : B ≤ W3.heap.size := Nat.le_trans hB HT3.out.fr.size
   clear KT hd3
   have KC : Aside0 (Calls Try.prog 27 #[.pointer (some ⟨g, 0, none⟩), .int .i64 6, .int .i64 2] W3 (TkPost B g s W3 (rc, rk, rn, rs, rp))) := ⟨by rw [hr]; exact sign_calls W3 B g s p [] 6 2 HT3.out.sc (by omega) (by decide)⟩
   clear hr hBW3 htw
   go_wp2_with fail
   refine KC.out.mono ?_
   rintro e W7 ⟨rfl, ⟨q6, o6, hs6, hq6⟩, hf6⟩
   have HT7 := Aside0.mk (HT3.out.step hs6 hf6)
   have HQ6 := Aside0.mk hq6
   have zb := HT7.out.zb
   have HP := HT7.out.put (tokC rk rn rs 0 0)
   clear hs6 hf6 hq6 KC
   try dsimp only
   go_wp2_with (refine wpList_store_rowTo rfl 24 _ _ rfl rfl z (tokC rk rn rs 0 0) rfl rfl 24 _ zb tokInfo rfl (tok_one _ _ _ _ _) ?_)
   repeat (rw [Exit.noGoto_ret])
   exact bodyPost_ret (results_ct rfl _ _ z 24 (tokC rk rn rs 0 0) (0, 0) _ rfl HP.1 Try.underlying24 rfl tokInfo) rfl (TkPost.mk_ rfl HP.2.1 HQ6.out HP.2.2)
  ·have hr0 := 0
   have hr := HR.out
   rw [← HC.out.1] at hr
   rw [if_neg h91, if_neg h93, if_neg h47, if_neg h40, if_pos h60, if_neg htw] at hr
   replace htw := Bool.eq_false_iff.2 htw
   clear HR HC hBW hr0
   have KT := Aside0.mk (twice_calls W2 B g s p [] HT2.out.sc (by omega) hp)
   rw [show decide (p + 1 < s.size ∧ bt s ((p + 1 : Nat) : Int) = bt s (p : Int)) = false from htw] at KT
   go_wp2_with fail
   refine KT.out.mono ?_
   rintro e W3 ⟨rfl, hd3⟩
   have HT3 := Aside0.mk (HT2.out.drawn hd3)
   have hBW3 : B ≤ W3.heap.size := Nat.le_trans hB HT3.out.fr.size
   clear KT hd3
   have KC : Aside0 (Calls Try.prog 31 #[.pointer (some ⟨g, 0, none⟩)] W3 (TkPost B g s W3 (rc, rk, rn, rs, rp))) := ⟨by rw [hr]; exact hex_calls2 W3 B g s p s.size HT3.out.sc hs hp hBW3 (by omega)⟩
   clear hr hBW3 htw
   go_wp2_with fail
   refine KC.out.mono ?_
   rintro e W7 ⟨rfl, ⟨q6, o6, hs6, hq6⟩, hf6⟩
   have HT7 := Aside0.mk (HT3.out.step hs6 hf6)
   have HQ6 := Aside0.mk hq6
   have zb := HT7.out.zb
   have HP := HT7.out.put (tokC rk rn rs 0 0)
   clear hs6 hf6 hq6 KC
   try dsimp only
   go_wp2_with (refine wpList_store_rowTo rfl 24 _ _ rfl rfl z (tokC rk rn rs 0 0) rfl rfl 24 _ zb tokInfo rfl (tok_one _ _ _ _ _) ?_)
   repeat (rw [Exit.noGoto_ret])
   exact bodyPost_ret (results_ct rfl _ _ z 24 (tokC rk rn rs 0 0) (0, 0) _ rfl HP.1 Try.underlying24 rfl tokInfo) rfl (TkPost.mk_ rfl HP.2.1 HQ6.out HP.2.2)
 have t60 : (c == 60) = false := beq_false_of_ne h60
 by_cases h62 : c = 62
 ·have t62 : (c == 62) = true := beq_iff_eq.2 h62
  by_cases htw : twiceB s p = true
  ·have hr0 := 0
   have hr := HR.out
   rw [← HC.out.1] at hr
   rw [if_neg h91, if_neg h93, if_neg h47, if_neg h40, if_neg h60, if_pos h62, if_pos htw] at hr
   clear HR HC hBW hr0
   have KT := Aside0.mk (twice_calls W2 B g s p [] HT2.out.sc (by omega) hp)
   rw [show decide (p + 1 < s.size ∧ bt s ((p + 1 : Nat) : Int) = bt s (p : Int)) = true from htw] at KT
   go_wp2_with fail
   refine KT.out.mono ?_
   rintro e W3 ⟨rfl, hd3⟩
   have HT3 := Aside0.mk (HT2.out.drawn hd3)
   have hBW3 : B ≤ W3.heap.size := Nat.le_trans hB HT3.out.fr.size
   clear KT hd3
   have KC : Aside0 (Calls Try.prog 27 #[.pointer (some ⟨g, 0, none⟩), .int .i64 7, .int .i64 2] W3 (TkPost B g s W3 (rc, rk, rn, rs, rp))) := ⟨by rw [hr]; exact sign_calls W3 B g s p [] 7 2 HT3.out.sc (by omega) (by decide)⟩
   clear hr hBW3 htw
   go_wp2_with fail
   refine KC.out.mono ?_
   rintro e W7 ⟨rfl, ⟨q6, o6, hs6, hq6⟩, hf6⟩
   have HT7 := Aside0.mk (HT3.out.step hs6 hf6)
   have HQ6 := Aside0.mk hq6
   have zb := HT7.out.zb
   have HP := HT7.out.put (tokC rk rn rs 0 0)
   clear hs6 hf6 hq6 KC
   try dsimp only
   go_wp2_with (refine wpList_store_rowTo rfl 24 _ _ rfl rfl z (tokC rk rn rs 0 0) rfl rfl 24 _ zb tokInfo rfl (tok_one _ _ _ _ _) ?_)
   repeat (rw [Exit.noGoto_ret])
   exact bodyPost_ret (results_ct rfl _ _ z 24 (tokC rk rn rs 0 0) (0, 0) _ rfl HP.1 Try.underlying24 rfl tokInfo) rfl (TkPost.mk_ rfl HP.2.1 HQ6.out HP.2.2)
  ·have hr0 := 0
   have hr := HR.out
   rw [← HC.out.1] at hr
   rw [if_neg h91, if_neg h93, if_neg h47, if_neg h40, if_neg h60, if_pos h62, if_neg htw] at hr
   replace htw := Bool.eq_false_iff.2 htw
   clear HR HC hBW hr0
   have KT := Aside0.mk (twice_calls W2 B g s p [] HT2.out.sc (by omega) hp)
   rw [show decide (p + 1 < s.size ∧ bt s ((p + 1 : Nat) : Int) = bt s (p : Int)) = false from htw] at KT
   go_wp2_with fail
   refine KT.out.mono ?_
   rintro e W3 ⟨rfl, hd3⟩
   have HT3 := Aside0.mk (HT2.out.drawn hd3)
   have hBW3 : B ≤ W3.heap.size := Nat.le_trans hB HT3.out.fr.size
   clear KT hd3
   have KC : Aside0 (Calls Try.prog 17 #[.int .i64 4] W3 (TkPost B g s W3 (rc, rk, rn, rs, rp))) := ⟨by rw [hr]; exact (bad_calls 4 _).mono (fun e w' h => TkPost.mk_ h.1 (HT3.out.sc.below h.2) (fun h => absurd h (by decide)) (Fr.of_below h.2 _))⟩
   clear hr hBW3 htw
   go_wp2_with fail
   refine KC.out.mono ?_
   rintro e W7 ⟨rfl, ⟨q6, o6, hs6, hq6⟩, hf6⟩
   have HT7 := Aside0.mk (HT3.out.step hs6 hf6)
   have HQ6 := Aside0.mk hq6
   have zb := HT7.out.zb
   have HP := HT7.out.put (tokC rk rn rs 0 0)
   clear hs6 hf6 hq6 KC
   try dsimp only
   go_wp2_with (refine wpList_store_rowTo rfl 24 _ _ rfl rfl z (tokC rk rn rs 0 0) rfl rfl 24 _ zb tokInfo rfl (tok_one _ _ _ _ _) ?_)
   repeat (rw [Exit.noGoto_ret])
   exact bodyPost_ret (results_ct rfl _ _ z 24 (tokC rk rn rs 0 0) (0, 0) _ rfl HP.1 Try.underlying24 rfl tokInfo) rfl (TkPost.mk_ rfl HP.2.1 HQ6.out HP.2.2)
 have t62 : (c == 62) = false := beq_false_of_ne h62
 by_cases h41 : c = 41
 ·have t41 : (c == 41) = true := beq_iff_eq.2 h41
  have hr := HR.out
  rw [← HC.out.1] at hr
  rw [if_neg h91, if_neg h93, if_neg h47, if_neg h40, if_neg h60, if_neg h62, if_pos (.inl h41)] at hr
  have KC : Aside0 (Calls Try.prog 17 #[.int .i64 4] W2 (TkPost B g s W2 (rc, rk, rn, rs, rp))) := ⟨by rw [hr]; exact (bad_calls 4 _).mono (fun e w' h => TkPost.mk_ h.1 (HT2.out.sc.below h.2) (fun h => absurd h (by decide)) (Fr.of_below h.2 _))⟩
  clear HR HC hr hBW
  go_wp2_with fail
  refine KC.out.mono ?_
  rintro e W7 ⟨rfl, ⟨q6, o6, hs6, hq6⟩, hf6⟩
  have HT7 := Aside0.mk (HT2.out.step hs6 hf6)
  have HQ6 := Aside0.mk hq6
  have zb := HT7.out.zb
  have HP := HT7.out.put (tokC rk rn rs 0 0)
  clear hs6 hf6 hq6 KC
  try dsimp only
  go_wp2_with (refine wpList_store_rowTo rfl 24 _ _ rfl rfl z (tokC rk rn rs 0 0) rfl rfl 24 _ zb tokInfo rfl (tok_one _ _ _ _ _) ?_)
  repeat (rw [Exit.noGoto_ret])
  exact bodyPost_ret (results_ct rfl _ _ z 24 (tokC rk rn rs 0 0) (0, 0) _ rfl HP.1 Try.underlying24 rfl tokInfo) rfl (TkPost.mk_ rfl HP.2.1 HQ6.out HP.2.2)
 have t41 : (c == 41) = false := beq_false_of_ne h41
 by_cases h123 : c = 123
 ·have t123 : (c == 123) = true := beq_iff_eq.2 h123
  have hr := HR.out
  rw [← HC.out.1] at hr
  rw [if_neg h91, if_neg h93, if_neg h47, if_neg h40, if_neg h60, if_neg h62, if_pos (.inr (.inl h123))] at hr
  have KC : Aside0 (Calls Try.prog 17 #[.int .i64 4] W2 (TkPost B g s W2 (rc, rk, rn, rs, rp))) := ⟨by rw [hr]; exact (bad_calls 4 _).mono (fun e w' h => TkPost.mk_ h.1 (HT2.out.sc.below h.2) (fun h => absurd h (by decide)) (Fr.of_below h.2 _))⟩
  clear HR HC hr hBW
  go_wp2_with fail
  refine KC.out.mono ?_
  rintro e W7 ⟨rfl, ⟨q6, o6, hs6, hq6⟩, hf6⟩
  have HT7 := Aside0.mk (HT2.out.step hs6 hf6)
  have HQ6 := Aside0.mk hq6
  have zb := HT7.out.zb
  have HP := HT7.out.put (tokC rk rn rs 0 0)
  clear hs6 hf6 hq6 KC
  try dsimp only
  go_wp2_with (refine wpList_store_rowTo rfl 24 _ _ rfl rfl z (tokC rk rn rs 0 0) rfl rfl 24 _ zb tokInfo rfl (tok_one _ _ _ _ _) ?_)
  repeat (rw [Exit.noGoto_ret])
  exact bodyPost_ret (results_ct rfl _ _ z 24 (tokC rk rn rs 0 0) (0, 0) _ rfl HP.1 Try.underlying24 rfl tokInfo) rfl (TkPost.mk_ rfl HP.2.1 HQ6.out HP.2.2)
 have t123 : (c == 123) = false := beq_false_of_ne h123
 by_cases h125 : c = 125
 ·have t125 : (c == 125) = true := beq_iff_eq.2 h125
  have hr := HR.out
  rw [← HC.out.1] at hr
  rw [if_neg h91, if_neg h93, if_neg h47, if_neg h40, if_neg h60, if_neg h62, if_pos (.inr (.inr h125))] at hr
  have KC : Aside0 (Calls Try.prog 17 #[.int .i64 4] W2 (TkPost B g s W2 (rc, rk, rn, rs, rp))) := ⟨by rw [hr]; exact (bad_calls 4 _).mono (fun e w' h => TkPost.mk_ h.1 (HT2.out.sc.below h.2) (fun h => absurd h (by decide)) (Fr.of_below h.2 _))⟩
  clear HR HC hr hBW
  go_wp2_with fail
  refine KC.out.mono ?_
  rintro e W7 ⟨rfl, ⟨q6, o6, hs6, hq6⟩, hf6⟩
  have HT7 := Aside0.mk (HT2.out.step hs6 hf6)
  have HQ6 := Aside0.mk hq6
  have zb := HT7.out.zb
  have HP := HT7.out.put (tokC rk rn rs 0 0)
  clear hs6 hf6 hq6 KC
  try dsimp only
  go_wp2_with (refine wpList_store_rowTo rfl 24 _ _ rfl rfl z (tokC rk rn rs 0 0) rfl rfl 24 _ zb tokInfo rfl (tok_one _ _ _ _ _) ?_)
  repeat (rw [Exit.noGoto_ret])
  exact bodyPost_ret (results_ct rfl _ _ z 24 (tokC rk rn rs 0 0) (0, 0) _ rfl HP.1 Try.underlying24 rfl tokInfo) rfl (TkPost.mk_ rfl HP.2.1 HQ6.out HP.2.2)
 have t125 : (c == 125) = false := beq_false_of_ne h125
 have hr := HR.out
 rw [← HC.out.1] at hr
 rw [if_neg h91, if_neg h93, if_neg h47, if_neg h40, if_neg h60, if_neg h62, if_neg (fun h => h.elim h41 (fun h => h.elim h123 h125))] at hr
 have KC : Aside0 (Calls Try.prog 32 #[.pointer (some ⟨g, 0, none⟩)] W2 (TkPost B g s W2 (rc, rk, rn, rs, rp))) := ⟨by rw [hr]; exact word_calls W2 B g s p [] HT2.out.sc hs (by omega) hBW⟩
 clear HR HC hr hBW
 go_wp2_with fail
 refine KC.out.mono ?_
 rintro e W7 ⟨rfl, ⟨q6, o6, hs6, hq6⟩, hf6⟩
 have HT7 := Aside0.mk (HT2.out.step hs6 hf6)
 have HQ6 := Aside0.mk hq6
 have zb := HT7.out.zb
 have HP := HT7.out.put (tokC rk rn rs 0 0)
 clear hs6 hf6 hq6 KC
 try dsimp only
 go_wp2_with (refine wpList_store_rowTo rfl 24 _ _ rfl rfl z (tokC rk rn rs 0 0) rfl rfl 24 _ zb tokInfo rfl (tok_one _ _ _ _ _) ?_)
 repeat (rw [Exit.noGoto_ret])
 exact bodyPost_ret (results_ct rfl _ _ z 24 (tokC rk rn rs 0 0) (0, 0) _ rfl HP.1 Try.underlying24 rfl tokInfo) rfl (TkPost.mk_ rfl HP.2.1 HQ6.out HP.2.2)
end Go.Proofs.Ytkmmmlbppobifaa.Hand
