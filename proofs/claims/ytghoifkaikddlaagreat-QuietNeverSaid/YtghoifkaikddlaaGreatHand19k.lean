/- binderylaw19.QuietNever answers true: walked by hand over the contracts of Names, Encode, Decode and Loud. -/
import Derived.Test.YtghoifkaikddlaaGreatHand14b
import Derived.Test.YtghoifkaikddlaaGreatHand19h
namespace Go.Proofs.YtghoifkaikddlaaGreat.Hand
open Go.RowKit Go.Proofs.YtghoifkaikddlaaGreatW.PrintWords Go.Proofs.YtghoifkaikddlaaGreatW.PrintLast Go.Proofs.YtghoifkaikddlaaGreat.Num
set_option linter.unusedVariables false
set_option linter.unusedSimpArgs false
theorem hexE_quiet (s : ByteArray) : loudB (hexE s) = false := by
 refine loud_f (fun i hi => ?_)
 have hr : ∀ y ∈ hexL (bytesOf s) ++ [62], (48 ≤ y ∧ y ≤ 70) := by
  have hd : ∀ n : Int, 0 ≤ n → n ≤ 15 → 48 ≤ dgF n ∧ dgF n ≤ 70 := fun n h0 h1 => by unfold dgF; split <;> omega
  intro y hy
  rcases List.mem_append.1 hy with h | h
  ·unfold hexL at h
   obtain ⟨c, hc, h⟩ := List.mem_flatMap.1 h
   have hb := bytes_range s c hc
   simp only [List.mem_cons, List.not_mem_nil, or_false] at h
   rcases h with rfl | rfl
   ·exact hd _ (by omega) (by omega)
   ·exact hd _ (by omega) (by omega)
  ·rw [List.mem_singleton.1 h]; omega
 have hb : bytesOf (hexE s) = hexL (bytesOf s) ++ [62] := by
  unfold hexE
  exact bytesOf_strOfNums _ (fun y hy => by have := hr y hy; omega)
 have hm : ((hexE s)[i].toNat : Int) ∈ bytesOf (hexE s) := by
  have h1 : bytesOf (hexE s) = (hexE s).data.toList.map (fun b => (b.toNat : Int)) := by unfold bytesOf; rfl
  rw [h1]
  refine List.mem_map.2 ⟨(hexE s)[i], ?_, rfl⟩
  exact Array.getElem_mem_toList _
 rw [hb] at hm
 have := hr _ hm
 exact loudAt_first hi _ rfl (by omega) (by omega) (by omega)
theorem preP_zero (s : ByteArray) : preP s 0 = s := by unfold preP; rw [if_neg (by omega)]
theorem qe_calls (l : List ByteArray) (s : ByteArray) (hs : s.size ≤ 500) (h4 : l.length ≤ 4) (hk : ∀ nm ∈ l, kn nm ≠ 0) (n : Nat) (hn : n = l.length) (A : Option Addr) (cap : Nat) (w : World) (hl : Strs w A l) :
  Calls Tryz.prog 17 #[.slice A n cap, .int .i64 0, .string s] w fun e w' => e = .returned (.tuple #[.string (foldOn onA l s), .int .i64 0]) ∧ Below w.heap.size w w' :=
 enc0_calls A n cap l s w hn hl h4 hk (by have := pow4 h4 (s.size + 20); omega)
theorem qd_calls (l : List ByteArray) (s : ByteArray) (hs : s.size ≤ 500) (h4 : l.length ≤ 4) (hk : ∀ nm ∈ l, kn nm ≠ 0) (n : Nat) (hn : n = l.length) (A : Option Addr) (cap : Nat) (w : World) (hl : Strs w A l) :
  Calls Tryz.prog 21 #[.slice A n cap, .int .i64 0, .string (foldOn onA l s), .int .i64 (s.size : Int)] w fun e w' => e = .returned (.tuple #[.string s, .int .i64 0]) ∧ Below w.heap.size w w' := by
 have h := cbD_calls A n cap l 0 (s.size : Int) s w hn hl (by omega) (by omega) hs (fun h => absurd h (by decide)) ((chk_iff l).2 ⟨h4, hk⟩) (by omega) (Int.le_refl _) (by omega)
 rw [preP_zero, if_neg (Int.lt_irrefl _)] at h
 exact h
set_option maxRecDepth 100000 in
set_option maxHeartbeats 8000000 in
theorem quietNever_walk (A : Option Addr) (n cap : Nat) (l : List ByteArray) (s : ByteArray) (w : World) (w0 : Names w A n cap l) (ws : s.size ≤ 140737488351232) :
  Calls Tryz.prog 9 #[.slice A n cap, .string s] w fun e w' => e = .returned (.bool true) ∧ Below w.heap.size w w' := by
 have KH := Aside0.mk (fun W => hidden_calls W)
 obtain ⟨hn, hnc, hm, hst, hso⟩ := w0
 have HN := Aside0.mk hn
 clear hn hso hm hnc
 by_cases h1 : 4 < n
 ·have q1 : decide ((4 : Int) < (n : Int)) = true := decide_eq_true (by omega)
  go_enter Tryz.func9, Tryz.ntmps9
  go_wp2_with (first | (go_at_call 10; (with_reducible refine (KH.out _).mono ?_); rintro e w9 ⟨rfl, hb9⟩))
  go_ret
  exact ⟨rfl, hb9⟩
 have q1 : decide ((4 : Int) < (n : Int)) = false := decide_eq_false (by omega)
 by_cases h2 : 500 < s.size
 ·have q2 : decide ((500 : Int) < (s.size : Int)) = true := decide_eq_true (by omega)
  go_enter Tryz.func9, Tryz.ntmps9
  go_wp2_with (first | (go_at_call 10; (with_reducible refine (KH.out _).mono ?_); rintro e w9 ⟨rfl, hb9⟩))
  go_ret
  exact ⟨rfl, hb9⟩
 have q2 : decide ((500 : Int) < (s.size : Int)) = false := decide_eq_false (by omega)
 have hs5 : s.size ≤ 500 := by omega
 have h4l : l.length ≤ 4 := by have := HN.out; omega
 have hpw := pow4 h4l (s.size + 20)
 have KN0 := Aside0.mk (fun (r : ByteArray × Int) (hr : r.1.size ≤ 1000000) (hE : ∀ W, Strs W A l → _) (W : World) (h : Strs W A l) => names_calls A n cap l 0 s r W HN.out (by omega) h hr hE)
 by_cases hc : cchkF l 0 = 0
 ·obtain ⟨_, hk⟩ := (chk_iff l).1 hc
  have hz := fold_size l s h4l hk (by omega)
  have KN := Aside0.mk (KN0.out (foldOn onA l s, 0) (show (foldOn onA l s).size ≤ 1000000 by omega) (fun W h => enc0_calls A n cap l s W HN.out h h4l hk (by omega)))
  by_cases hL : loudB (foldOn onA l s) = true
  ·by_cases hl4 : l.length = 4
   ·have e : namF l (foldOn onA l s, 0) = ([], 16) := by unfold namF; rw [if_pos rfl, if_pos hL, if_pos hl4]
    rw [e] at KN
    clear e hl4 hL hz hk hc KN0 hpw
    go_enter Tryz.func9, Tryz.ntmps9
    go_wp2_with (first | (go_at_call 11; (with_reducible refine (KN.out _ hst).mono ?_); rintro e w1 ⟨v1, rfl, hv1, hb1⟩; obtain ⟨A1, c1, rfl⟩ := hv1.shape; have H1 := Aside0.mk (And.intro hb1 hv1); clear hb1 hv1 KN) | (go_at_call 10; (with_reducible refine (KH.out _).mono ?_); rintro e w9 ⟨rfl, hb9⟩))
    go_ret
    exact ⟨rfl, H1.out.1.trans (hb9.mono H1.out.1.size)⟩
   ·have e : namF l (foldOn onA l s, 0) = (hexN :: l, 0) := by unfold namF; rw [if_pos rfl, if_pos hL, if_neg hl4]
    rw [e] at KN
    obtain ⟨m, hm⟩ : ∃ m, m = (hexN :: l).length := ⟨_, rfl⟩
    have hk2 : ∀ nm ∈ hexN :: l, kn nm ≠ 0 := fun x hx => by
     rcases List.mem_cons.1 hx with rfl | hx
     ·decide
     ·exact hk x hx
    have KE := Aside0.mk (qe_calls (hexN :: l) s hs5 (by rw [List.length_cons]; omega) hk2 m hm)
    have KD := Aside0.mk (qd_calls (hexN :: l) s hs5 (by rw [List.length_cons]; omega) hk2 m hm)
    have ef : foldOn onA (hexN :: l) s = hexE (foldOn onA l s) := by
     show onA (kn hexN) (foldOn onA l s) = _
     rw [kn1]
     rfl
    have hq := hexE_quiet (foldOn onA l s)
    have hqs := hexE_size (foldOn onA l s)
    rw [← ef] at hq hqs
    have KL := Aside0.mk (fun W => loud_calls (foldOn onA (hexN :: l) s) W (by omega))
    rw [hq] at KL
    generalize foldOn onA (hexN :: l) s = X at *
    generalize hll : hexN :: l = L at *
    clear e hl4 hL hz hk hk2 hc KN0 hpw ef hq hqs hll
    subst hm
    go_enter Tryz.func9, Tryz.ntmps9
    go_wp2_with (first | (go_at_call 11; (with_reducible refine (KN.out _ hst).mono ?_); rintro e w1 ⟨v1, rfl, hv1, hb1⟩; obtain ⟨A1, c1, rfl⟩ := hv1.shape; have H1 := Aside0.mk (And.intro hb1 hv1); clear hb1 hv1 KN) | (go_at_call 17; (with_reducible refine (KE.out _ _ _ H1.out.2.strs).mono ?_); rintro e w2 ⟨rfl, hb2⟩; have H2 := Aside0.mk (And.intro (H1.out.1.trans (hb2.mono H1.out.1.size)) (H1.out.2.below hb2)); clear hb2 KE) | (go_at_call 21; (with_reducible refine (KD.out _ _ _ H2.out.2.strs).mono ?_); rintro e w3 ⟨rfl, hb3⟩; have H3 := Aside0.mk (H2.out.1.trans (hb3.mono H2.out.1.size)); clear hb3 KD) | (go_at_call 13; (with_reducible refine (KL.out _).mono ?_); rintro e w4 ⟨rfl, hb4⟩; have H4 := Aside0.mk (H3.out.trans (hb4.mono H3.out.size)); clear hb4) | (go_at_call 10; (with_reducible refine (KH.out _).mono ?_); rintro e w9 ⟨rfl, hb9⟩))
    go_ret
    exact ⟨rfl, H4.out.trans (hb9.mono H4.out.size)⟩
  ·have e : namF l (foldOn onA l s, 0) = (l, 0) := by unfold namF; rw [if_pos rfl, if_neg hL]
   rw [e] at KN
   have KE := Aside0.mk (qe_calls l s hs5 h4l hk l.length rfl)
   have KD := Aside0.mk (qd_calls l s hs5 h4l hk l.length rfl)
   have KL := Aside0.mk (fun W => loud_calls (foldOn onA l s) W (by omega))
   rw [Bool.eq_false_iff.2 hL] at KL
   generalize foldOn onA l s = X at *
   clear e hL hz hk hc KN0 hpw
   go_enter Tryz.func9, Tryz.ntmps9
   go_wp2_with (first | (go_at_call 11; (with_reducible refine (KN.out _ hst).mono ?_); rintro e w1 ⟨v1, rfl, hv1, hb1⟩; obtain ⟨A1, c1, rfl⟩ := hv1.shape; have H1 := Aside0.mk (And.intro hb1 hv1); clear hb1 hv1 KN) | (go_at_call 17; (with_reducible refine (KE.out _ _ _ H1.out.2.strs).mono ?_); rintro e w2 ⟨rfl, hb2⟩; have H2 := Aside0.mk (And.intro (H1.out.1.trans (hb2.mono H1.out.1.size)) (H1.out.2.below hb2)); clear hb2 KE) | (go_at_call 21; (with_reducible refine (KD.out _ _ _ H2.out.2.strs).mono ?_); rintro e w3 ⟨rfl, hb3⟩; have H3 := Aside0.mk (H2.out.1.trans (hb3.mono H2.out.1.size)); clear hb3 KD) | (go_at_call 13; (with_reducible refine (KL.out _).mono ?_); rintro e w4 ⟨rfl, hb4⟩; have H4 := Aside0.mk (H3.out.trans (hb4.mono H3.out.size)); clear hb4) | (go_at_call 10; (with_reducible refine (KH.out _).mono ?_); rintro e w9 ⟨rfl, hb9⟩))
   go_ret
   exact ⟨rfl, H4.out.trans (hb9.mono H4.out.size)⟩
 ·have KN := Aside0.mk (KN0.out (⟨#[]⟩, cchkF l 0) (show (⟨#[]⟩ : ByteArray).size ≤ 1000000 by decide) (fun W h => cbN_calls A n cap l 0 s W HN.out h hs5 hc))
  have e : namF l (⟨#[]⟩, cchkF l 0) = ([], cchkF l 0) := by unfold namF; rw [if_neg hc]
  rw [e] at KN
  generalize cchkF l 0 = k at *
  have t0 : (k != 0) = true := bne_iff_ne.2 hc
  clear e hc KN0 hpw
  go_enter Tryz.func9, Tryz.ntmps9
  go_wp2_with (first | (go_at_call 11; (with_reducible refine (KN.out _ hst).mono ?_); rintro e w1 ⟨v1, rfl, hv1, hb1⟩; obtain ⟨A1, c1, rfl⟩ := hv1.shape; have H1 := Aside0.mk (And.intro hb1 hv1); clear hb1 hv1 KN) | (go_at_call 10; (with_reducible refine (KH.out _).mono ?_); rintro e w9 ⟨rfl, hb9⟩))
  go_ret
  exact ⟨rfl, H1.out.1.trans (hb9.mono H1.out.1.size)⟩
end Go.Proofs.YtghoifkaikddlaaGreat.Hand
