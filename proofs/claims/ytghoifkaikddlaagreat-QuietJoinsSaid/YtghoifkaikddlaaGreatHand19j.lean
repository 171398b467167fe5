/- binderylaw19.QuietJoins answers true: walked by hand over the contract of Loud. -/
import Derived.Test.YtghoifkaikddlaaGreatHand19h
namespace Go.Proofs.YtghoifkaikddlaaGreat.Hand
open Go.RowKit Go.Proofs.YtghoifkaikddlaaGreatW.PrintWords Go.Proofs.YtghoifkaikddlaaGreatW.PrintLast Go.Proofs.YtghoifkaikddlaaGreat.Num
set_option linter.unusedVariables false
set_option linter.unusedSimpArgs false
theorem toList_app (a b : ByteArray) : (a ++ b).toList = a.toList ++ b.toList := by
  rw [ByteArray.toList_eq, ByteArray.toList_eq, ByteArray.toList_eq, ByteArray.data_append, Array.toList_append]
theorem pre_iff (t p : ByteArray) : preB t p = true ↔ p.toList <+: t.toList := by
  unfold preB
  rw [decide_eq_true_iff]
  have ht : t.toList.length = t.size := by rw [ByteArray.toList_eq, Array.length_toList]; rfl
  have hp : p.toList.length = p.size := by rw [ByteArray.toList_eq, Array.length_toList]; rfl
  have he : (t.extract 0 p.size).toList = t.toList.take p.size := by
    rw [ByteArray.toList_eq, ByteArray.toList_eq, ByteArray.data_extract, Array.toList_extract]
    simp [List.extract]
  rw [he]
  constructor
  · rintro ⟨_, h⟩
    rw [← h]
    exact List.take_prefix _ _
  · intro h
    refine ⟨by have := h.length_le; omega, ?_⟩
    rw [← hp]
    exact (List.prefix_iff_eq_take.1 h).symm
theorem ext_drop (s : ByteArray) (i : Nat) : (s.extract i s.size).toList = s.toList.drop i := by
  rw [ByteArray.toList_eq, ByteArray.toList_eq, ByteArray.data_extract, Array.toList_extract]
  simp only [List.extract]
  rw [List.take_of_length_le]
  rw [List.length_drop, Array.length_toList]
  exact Nat.le_refl _
theorem pre_app {s p : ByteArray} {i : Nat} (x y : ByteArray) (hi : i < s.size) (h : preB (s.extract i s.size) p = true) : preB ((x ++ s ++ y).extract (x.size + i) (x ++ s ++ y).size) p = true := by
  rw [pre_iff, ext_drop] at h ⊢
  have hx : x.toList.length = x.size := by rw [ByteArray.toList_eq, Array.length_toList]; rfl
  have hs : s.toList.length = s.size := by rw [ByteArray.toList_eq, Array.length_toList]; rfl
  rw [toList_app, toList_app, List.append_assoc, ← hx, ← List.drop_drop, List.drop_left, List.drop_append_of_le_length (by omega)]
  exact h.trans (List.prefix_append _ _)
theorem loud_app (x s y : ByteArray) (h : loudB s = true) : loudB (x ++ s ++ y) = true := by
  obtain ⟨i, hi, h2⟩ := List.any_eq_true.1 h
  have hi' := List.mem_range.1 hi
  refine loud_t (i := x.size + i) (by rw [ByteArray.size_append, ByteArray.size_append]; omega) ?_
  unfold loudAt at h2 ⊢
  rw [Bool.or_eq_true, Bool.or_eq_true] at h2 ⊢
  rcases h2 with h2 | h2 | h2
  · exact .inl (pre_app x y hi' h2)
  · exact .inr (.inl (pre_app x y hi' h2))
  · exact .inr (.inr (pre_app x y hi' h2))
set_option maxRecDepth 100000 in
set_option maxHeartbeats 8000000 in
theorem quietJoins_walk (a s b : ByteArray) (w : World) (wa : a.size ≤ 140737488351232) (ws : s.size ≤ 140737488351232) (wb : b.size ≤ 140737488351232) :
    Calls Tryz.prog 4 #[.string a, .string s, .string b] w fun e w' => e = .returned (.bool true) ∧ Below w.heap.size w w' := by
  have KH := Aside0.mk (fun W => hidden_calls W)
  by_cases h1 : 500 < a.size ∨ 500 < s.size ∨ 500 < b.size
  · obtain ⟨q1, hq1⟩ : ∃ q, q = decide ((500 : Int) < (a.size : Int)) := ⟨_, rfl⟩
    obtain ⟨q2, hq2⟩ : ∃ q, q = decide ((500 : Int) < (s.size : Int)) := ⟨_, rfl⟩
    obtain ⟨q3, hq3⟩ : ∃ q, q = decide ((500 : Int) < (b.size : Int)) := ⟨_, rfl⟩
    have hor : q1 = true ∨ (q1 = false ∧ q2 = true) ∨ (q1 = false ∧ q2 = false ∧ q3 = true) := by
      rw [hq1, hq2, hq3]
      simp only [decide_eq_true_eq, decide_eq_false_iff_not]
      omega
    clear h1
    rcases hor with h | ⟨h, h2⟩ | ⟨h, h2, h3⟩
    · rw [hq1] at h
      clear hq1 hq2 hq3
      go_enter Tryz.func4, Tryz.ntmps4
      go_wp2_with (first | (go_at_call 10; (with_reducible refine (KH.out _).mono ?_); rintro e w1 ⟨rfl, hb1⟩))
      go_ret
      exact ⟨rfl, hb1⟩
    · rw [hq1] at h
      rw [hq2] at h2
      clear hq1 hq2 hq3
      go_enter Tryz.func4, Tryz.ntmps4
      go_wp2_with (first | (go_at_call 10; (with_reducible refine (KH.out _).mono ?_); rintro e w1 ⟨rfl, hb1⟩))
      go_ret
      exact ⟨rfl, hb1⟩
    · rw [hq1] at h
      rw [hq2] at h2
      rw [hq3] at h3
      clear hq1 hq2 hq3
      go_enter Tryz.func4, Tryz.ntmps4
      go_wp2_with (first | (go_at_call 10; (with_reducible refine (KH.out _).mono ?_); rintro e w1 ⟨rfl, hb1⟩))
      go_ret
      exact ⟨rfl, hb1⟩
  · have q1 : decide ((500 : Int) < (a.size : Int)) = false := decide_eq_false (by omega)
    have q2 : decide ((500 : Int) < (s.size : Int)) = false := decide_eq_false (by omega)
    have q3 : decide ((500 : Int) < (b.size : Int)) = false := decide_eq_false (by omega)
    have sa : a.size ≤ 500 := by omega
    have ss : s.size ≤ 500 := by omega
    have sb : b.size ≤ 500 := by omega
    have K0 := Aside0.mk (fun W => loud_calls s W (by omega))
    have K1 := Aside0.mk (fun W => loud_calls (a ++ s ++ b) W (by rw [ByteArray.size_append, ByteArray.size_append]; omega))
    have K2 := Aside0.mk (fun W => loud_calls (a ++ wO ++ b) W (by rw [ByteArray.size_append, ByteArray.size_append]; have : wO.size = 3 := rfl; omega))
    have K3 := Aside0.mk (fun W => loud_calls (a ++ wX ++ b) W (by rw [ByteArray.size_append, ByteArray.size_append]; have : wX.size = 4 := rfl; omega))
    have K4 := Aside0.mk (fun W => loud_calls (a ++ wS ++ b) W (by rw [ByteArray.size_append, ByteArray.size_append]; have : wS.size = 6 := rfl; omega))
    rw [loud_app a wO b (by decide +kernel)] at K2
    rw [loud_app a wX b (by decide +kernel)] at K3
    rw [loud_app a wS b (by decide +kernel)] at K4
    clear h1
    by_cases hl : loudB s = true
    · rw [hl] at K0
      rw [loud_app a s b hl] at K1
      clear hl
      go_enter Tryz.func4, Tryz.ntmps4
      go_wp2_with (first | (go_at_call 13; (with_reducible refine (K0.out _).mono ?_); rintro e w1 ⟨rfl, hb1⟩) | (go_at_call 13; (with_reducible refine (K1.out _).mono ?_); rintro e w2 ⟨rfl, hb2⟩) | (go_at_call 13; (with_reducible refine (K2.out _).mono ?_); rintro e w3 ⟨rfl, hb3⟩) | (go_at_call 13; (with_reducible refine (K3.out _).mono ?_); rintro e w4 ⟨rfl, hb4⟩) | (go_at_call 13; (with_reducible refine (K4.out _).mono ?_); rintro e w5 ⟨rfl, hb5⟩) | (go_at_call 10; (with_reducible refine (KH.out _).mono ?_); rintro e w6 ⟨rfl, hb6⟩))
      go_ret
      have B2 := hb1.trans (hb2.mono hb1.size)
      have B3 := B2.trans (hb3.mono B2.size)
      have B4 := B3.trans (hb4.mono B3.size)
      have B5 := B4.trans (hb5.mono B4.size)
      exact ⟨rfl, B5.trans (hb6.mono B5.size)⟩
    · rw [Bool.eq_false_iff.2 hl] at K0
      clear hl K1
      go_enter Tryz.func4, Tryz.ntmps4
      go_wp2_with (first | (go_at_call 13; (with_reducible refine (K0.out _).mono ?_); rintro e w1 ⟨rfl, hb1⟩) | (go_at_call 13; (with_reducible refine (K2.out _).mono ?_); rintro e w3 ⟨rfl, hb3⟩) | (go_at_call 13; (with_reducible refine (K3.out _).mono ?_); rintro e w4 ⟨rfl, hb4⟩) | (go_at_call 13; (with_reducible refine (K4.out _).mono ?_); rintro e w5 ⟨rfl, hb5⟩) | (go_at_call 10; (with_reducible refine (KH.out _).mono ?_); rintro e w6 ⟨rfl, hb6⟩))
      go_ret
      have B3 := hb1.trans (hb3.mono hb1.size)
      have B4 := B3.trans (hb4.mono B3.size)
      have B5 := B4.trans (hb5.mono B4.size)
      exact ⟨rfl, B5.trans (hb6.mono B5.size)⟩
end Go.Proofs.YtghoifkaikddlaaGreat.Hand
