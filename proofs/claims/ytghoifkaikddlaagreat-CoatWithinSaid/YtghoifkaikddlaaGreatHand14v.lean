/- binderylaw14.CoatWithin answers true: walked by hand over the contracts of Check and Encode. -/
import Derived.Test.YtghoifkaikddlaaGreatHand14w
import Derived.Test.YtghoifkaikddlaaGreatRowN
namespace Go.Proofs.YtghoifkaikddlaaGreat.Hand
open Go.RowKit Go.Proofs.YtghoifkaikddlaaGreatW.PrintWords Go.Proofs.YtghoifkaikddlaaGreatW.PrintLast Go.Proofs.YtghoifkaikddlaaGreat.Num
set_option linter.unusedVariables false
set_option linter.unusedSimpArgs false
theorem strs_take {w : World} {A : Option Addr} {l : List ByteArray} (h : Strs w A l) (k : Nat) : Strs w A (l.take k) := fun i hi => by
 rw [List.length_take] at hi
 obtain ⟨ad, h1, h2⟩ := h i (by omega)
 refine ⟨ad, h1, ?_⟩
 rw [h2, List.getD_eq_getElem?_getD, List.getD_eq_getElem?_getD, List.getElem?_take, if_pos (by omega)]
theorem strs_drop {w : World} {A : Option Addr} {l : List ByteArray} (h : Strs w A l) (k : Nat) : Strs w (Option.map (fun x => x.add k) A) (l.drop k) := fun i hi => by
 rw [List.length_drop] at hi
 obtain ⟨ad, h1, h2⟩ := h (k + i) (by omega)
 subst h1
 refine ⟨_, rfl, ?_⟩
 rw [List.getD_eq_getElem?_getD, List.getElem?_drop, ← List.getD_eq_getElem?_getD, ← h2, Addr.add_add]
set_option maxRecDepth 100000 in
set_option maxHeartbeats 8000000 in
theorem coatWithin_walk (A : Option Addr) (n cap : Nat) (l : List ByteArray) (a : Int) (s : ByteArray) (w : World) (w0 : Names w A n cap l) (wa : (Lit.int .u8 a).wf = true) (ws : s.size ≤ 140737488351232) :
  Calls Tryz.prog 8 #[.slice A n cap, .int .u8 a, .string s] w fun e w' => e = .returned (.bool true) ∧ Below w.heap.size w w' := by
 have ha : 0 ≤ a ∧ a ≤ 255 := by
  simp [Lit.wf, IntKind.min, IntKind.max, IntKind.bits, IntKind.signed] at wa
  exact wa
 have KT := Aside0.mk (fun W => coats_calls W)
 obtain ⟨hn, hnc, hm, hst, hso⟩ := w0
 have HN := Aside0.mk hn
 clear hn wa
 by_cases h1 : 4 < n
 ·have q1 : decide ((4 : Int) < (n : Int)) = true := decide_eq_true (by omega)
  go_enter Tryz.func8, Tryz.ntmps8
  go_wp2_with (first | (go_at_call 16; (with_reducible refine (KT.out _).mono ?_); rintro e w1 ⟨rfl, hb1⟩))
  go_ret
  exact ⟨rfl, hb1⟩
 have q1 : decide ((4 : Int) < (n : Int)) = false := decide_eq_false (by omega)
 by_cases h2 : 300 < s.size
 ·have q2 : decide ((300 : Int) < (s.size : Int)) = true := decide_eq_true (by omega)
  go_enter Tryz.func8, Tryz.ntmps8
  go_wp2_with (first | (go_at_call 16; (with_reducible refine (KT.out _).mono ?_); rintro e w1 ⟨rfl, hb1⟩))
  go_ret
  exact ⟨rfl, hb1⟩
 have q2 : decide ((300 : Int) < (s.size : Int)) = false := decide_eq_false (by omega)
 have KC := Aside0.mk (fun W (h : Strs W A l) => ccheck_calls A n cap l 0 W HN.out h)
 by_cases hc : cchkF l 0 = 0
 ·obtain ⟨h4, hk⟩ := (chk_iff l).1 hc
  rw [hc] at KC
  clear hc
  obtain ⟨i, hi⟩ : ∃ i : Nat, (i : Int) = a % ((n : Int) + 1) := ⟨(a % ((n : Int) + 1)).toNat, by have := Int.emod_nonneg a (show (n : Int) + 1 ≠ 0 by omega); omega⟩
  have hil : i ≤ n := by have := Int.emod_lt_of_pos a (show (0 : Int) < (n : Int) + 1 by omega); omega
  have hz : ((n : Int) + 1 == 0) = false := beq_false_of_ne (by omega)
  have hw1 : IntKind.i64.wrap (a % ((n : Int) + 1)) = (i : Int) := by rw [← hi]; exact IntWalk.i64_in _ (by omega)
  have ht1 : Int.tmod a ((n : Int) + 1) = (i : Int) := by rw [hi]; exact Int.tmod_eq_emod_of_nonneg ha.1
  clear hi
  have hp1 : 2 ^ l.length * (s.size + 20) ≤ 16 * (s.size + 20) := Nat.mul_le_mul_right _ (Nat.pow_le_pow_right (n := 2) (by omega) h4)
  have hkd : ∀ nm ∈ l.drop i, kn nm ≠ 0 := fun x hx => hk x (List.mem_of_mem_drop hx)
  have hkt : ∀ nm ∈ l.take i, kn nm ≠ 0 := fun x hx => hk x (List.mem_of_mem_take hx)
  have hld : (l.drop i).length = n - i := by rw [List.length_drop, HN.out]
  have hlt : (l.take i).length = i := by rw [List.length_take, ← HN.out]; omega
  have hpd : 2 ^ (l.drop i).length * (s.size + 20) ≤ 2 ^ l.length * (s.size + 20) := Nat.mul_le_mul_right _ (Nat.pow_le_pow_right (by omega) (by rw [hld, ← HN.out]; omega))
  have hx := fold_size (l.drop i) s (by rw [hld]; omega) hkd (by omega)
  have hpp : 2 ^ (l.take i).length * (2 ^ (l.drop i).length * (s.size + 20)) = 2 ^ l.length * (s.size + 20) := by
   rw [← Nat.mul_assoc, ← Nat.pow_add, hlt, hld, ← HN.out, show i + (n - i) = n by omega]
  have hxt : 2 ^ (l.take i).length * ((foldOn onA (l.drop i) s).size + 20) ≤ 60000 := by
   have := Nat.mul_le_mul_left (2 ^ (l.take i).length) hx
   omega
  have hfold : foldOn onA (l.take i) (foldOn onA (l.drop i) s) = foldOn onA l s := by rw [← foldOn_app, List.take_append_drop]
  have K1 := Aside0.mk (fun (W : World) (A' : Option Addr) (c' : Nat) (h : Strs W A' (l.drop i)) => enc0_calls A' (n - i) c' (l.drop i) s W hld.symm h (by rw [hld]; omega) hkd (by omega))
  have K2 := Aside0.mk (fun (W : World) (A' : Option Addr) (c' : Nat) (h : Strs W A' (l.take i)) => enc0_calls A' i c' (l.take i) (foldOn onA (l.drop i) s) W hlt.symm h (by rw [hlt]; omega) hkt hxt)
  have K3 := Aside0.mk (fun (W : World) (h : Strs W A l) => enc0_calls A n cap l s W HN.out h h4 hk (by omega))
  rw [hfold] at K2
  generalize foldOn onA (l.drop i) s = X at *
  generalize foldOn onA l s = R at *
  have hsd := Aside0.mk (fun (W : World) (h : Strs W A l) => strs_drop h i)
  have hstk := Aside0.mk (fun (W : World) (h : Strs W A l) => strs_take h i)
  clear hp1 hkd hkt hpd hx hpp hxt hfold
  go_enter Tryz.func8, Tryz.ntmps8
  by_cases hci : cap = i
  ·obtain rfl : n = i := by omega
   subst hci
   rw [Nat.sub_self] at K1
   have hd0 : l.drop cap = [] := by rw [HN.out, List.drop_length]
   rw [hd0] at K1
   clear hsd hd0 hld hlt
   go_wp2_with (first | (go_at_call 19; (with_reducible refine (KC.out _ hst).mono ?_); rintro e w1 ⟨rfl, hb1⟩; have H1 := Aside0.mk (And.intro hb1 (hst.below hb1)); clear hb1 KC) | (go_at_call 17; (with_reducible refine (K1.out _ _ _ (strs_no _ _)).mono ?_); rintro e w2 ⟨rfl, hb2⟩; have H2 := Aside0.mk (And.intro (H1.out.1.trans (hb2.mono H1.out.1.size)) (H1.out.2.below hb2)); clear hb2 K1) | (go_at_call 17; (with_reducible refine (K2.out _ _ _ (hstk.out _ H2.out.2)).mono ?_); rintro e w3 ⟨rfl, hb3⟩; have H3 := Aside0.mk (And.intro (H2.out.1.trans (hb3.mono H2.out.1.size)) (H2.out.2.below hb3)); clear hb3 K2) | (go_at_call 17; (with_reducible refine (K3.out _ H3.out.2).mono ?_); rintro e w4 ⟨rfl, hb4⟩; have H4 := Aside0.mk (H3.out.1.trans (hb4.mono H3.out.1.size)); clear hb4 K3) | (go_at_call 16; (with_reducible refine (KT.out _).mono ?_); rintro e w5 ⟨rfl, hb5⟩))
   go_ret
   exact ⟨rfl, H4.out.trans (hb5.mono H4.out.size)⟩
  ·have hcin : ¬ (cap - i = 0) := by omega
   go_wp2_with (first | (go_at_call 19; (with_reducible refine (KC.out _ hst).mono ?_); rintro e w1 ⟨rfl, hb1⟩; have H1 := Aside0.mk (And.intro hb1 (hst.below hb1)); clear hb1 KC) | (go_at_call 17; (with_reducible refine (K1.out _ _ _ (hsd.out _ H1.out.2)).mono ?_); rintro e w2 ⟨rfl, hb2⟩; have H2 := Aside0.mk (And.intro (H1.out.1.trans (hb2.mono H1.out.1.size)) (H1.out.2.below hb2)); clear hb2 K1) | (go_at_call 17; (with_reducible refine (K2.out _ _ _ (hstk.out _ H2.out.2)).mono ?_); rintro e w3 ⟨rfl, hb3⟩; have H3 := Aside0.mk (And.intro (H2.out.1.trans (hb3.mono H2.out.1.size)) (H2.out.2.below hb3)); clear hb3 K2) | (go_at_call 17; (with_reducible refine (K3.out _ H3.out.2).mono ?_); rintro e w4 ⟨rfl, hb4⟩; have H4 := Aside0.mk (H3.out.1.trans (hb4.mono H3.out.1.size)); clear hb4 K3) | (go_at_call 16; (with_reducible refine (KT.out _).mono ?_); rintro e w5 ⟨rfl, hb5⟩))
   go_ret
   exact ⟨rfl, H4.out.trans (hb5.mono H4.out.size)⟩
 ·generalize cchkF l 0 = k at *
  have t0 : (k != 0) = true := bne_iff_ne.2 hc
  clear hc
  go_enter Tryz.func8, Tryz.ntmps8
  go_wp2_with (first | (go_at_call 19; (with_reducible refine (KC.out _ hst).mono ?_); rintro e w1 ⟨rfl, hb1⟩) | (go_at_call 16; (with_reducible refine (KT.out _).mono ?_); rintro e w2 ⟨rfl, hb2⟩))
  go_ret
  exact ⟨rfl, hb1.trans (hb2.mono hb1.size)⟩
end Go.Proofs.YtghoifkaikddlaaGreat.Hand
