/- Tokens in plain numbers: white bytes and a note ahead turn nothing but places. -/
import Derived.Test.YtkmmmlbppobifaaLem15b
namespace Go.Proofs.Ytkmmmlbppobifaa.Hand
open Go.RowKit Go.Proofs.YtkmmmlbppobifaaW.PrintWords Go.Proofs.YtkmmmlbppobifaaW.PrintLast Go.Proofs.YtkmmmlbppobifaaW.PrintMore Go.Proofs.Ytkmmmlbppobifaa.Num Go.Proofs.Ytkmmmlbppobifaa.P01a
set_option linter.unusedVariables false
set_option linter.unusedSimpArgs false
theorem noteL_to (s : ByteArray) (e : Nat) (he : ¬ (e < s.size ∧ endsN s e = 0)) : ∀ (k p : Nat), p ≤ e → e ≤ p + k → (∀ j, p ≤ j → j < e → j < s.size ∧ endsN s j = 0) → noteL s k p = e
  | 0, p, h1, h2, _ => by rw [noteL]; omega
  | k + 1, p, h1, h2, h3 => by
    rw [noteL]
    by_cases h : p = e
    · subst h; rw [if_neg he]
    · rw [if_pos (h3 p (Nat.le_refl _) (by omega))]
      exact noteL_to s e he k (p + 1) (by omega) (by omega) (fun j h4 h5 => h3 j (by omega) h5)
theorem spanN_cons (s : ByteArray) (ks : List Int) (p : Nat) (hp : p < s.size) (h : ks.contains (kF (bt s (p : Int))) = true) : spanN ks s p = 1 + spanN ks s (p + 1) := by
  unfold spanN
  rw [drop_bytes s p hp, spanL, if_pos h]; omega
theorem spanN_stop (s : ByteArray) (ks : List Int) (p : Nat) (hp : p < s.size) (h : ks.contains (kF (bt s (p : Int))) = false) : spanN ks s p = 0 := by
  unfold spanN
  rw [drop_bytes s p hp, spanL, if_neg (by rw [h]; decide)]
theorem ends_no (s : ByteArray) (p : Nat) (h1 : bt s (p : Int) ≠ 10) (h2 : bt s (p : Int) ≠ 13) : endsN s p = 0 := by
  unfold endsN
  by_cases hp : p < s.size
  · rw [if_pos hp, if_neg h1, if_neg h2]
  · rw [if_neg hp]
/-- What stands ahead: a white byte, a note, the end of its line, and the white byte. -/
abbrev whiteA (v t : ByteArray) : ByteArray := v ++ (⟨#[37]⟩ : ByteArray) ++ t ++ (⟨#[10]⟩ : ByteArray) ++ v
theorem whiteA_size (v t : ByteArray) (hv : v.size = 1) : (whiteA v t).size = t.size + 4 := by
  unfold whiteA
  simp only [ByteArray.size_append]
  rw [hv]
  show 1 + 1 + t.size + 1 + 1 = t.size + 4
  omega
theorem whiteA_bytes (v t : ByteArray) (hv : v.size = 1) : bt (whiteA v t) ((0 : Nat) : Int) = bt v ((0 : Nat) : Int) ∧ bt (whiteA v t) ((1 : Nat) : Int) = 37 ∧ (∀ j, j < t.size → bt (whiteA v t) ((2 + j : Nat) : Int) = bt t (j : Int)) ∧ bt (whiteA v t) ((t.size + 2 : Nat) : Int) = 10 ∧ bt (whiteA v t) ((t.size + 3 : Nat) : Int) = bt v ((0 : Nat) : Int) := by
  have p1 : (⟨#[37]⟩ : ByteArray).size = 1 := rfl
  have p2 : (⟨#[10]⟩ : ByteArray).size = 1 := rfl
  have s1 : (v ++ (⟨#[37]⟩ : ByteArray)).size = 2 := by rw [ByteArray.size_append, hv, p1]
  have s2 : (v ++ (⟨#[37]⟩ : ByteArray) ++ t).size = t.size + 2 := by rw [ByteArray.size_append, s1]; omega
  have s3 : (v ++ (⟨#[37]⟩ : ByteArray) ++ t ++ (⟨#[10]⟩ : ByteArray)).size = t.size + 3 := by rw [ByteArray.size_append, s2, p2]
  unfold whiteA
  refine ⟨?_, ?_, ?_, ?_, ?_⟩
  · rw [bt_cat_left _ _ _ (by rw [s3]; omega), bt_cat_left _ _ _ (by rw [s2]; omega), bt_cat_left _ _ _ (by rw [s1]; omega), bt_cat_left _ _ _ (by rw [hv]; omega)]
  · rw [bt_cat_left _ _ _ (by rw [s3]; omega), bt_cat_left _ _ _ (by rw [s2]; omega), bt_cat_left _ _ _ (by rw [s1]; omega)]
    have h := bt_cat_right v (⟨#[37]⟩ : ByteArray) 0 (by decide)
    rw [hv] at h
    rw [h]; rfl
  · intro j hj
    rw [bt_cat_left _ _ _ (by rw [s3]; omega), bt_cat_left _ _ _ (by rw [s2]; omega)]
    have h := bt_cat_right (v ++ (⟨#[37]⟩ : ByteArray)) t j hj
    rw [s1] at h
    exact h
  · rw [bt_cat_left _ _ _ (by rw [s3]; omega)]
    have h := bt_cat_right (v ++ (⟨#[37]⟩ : ByteArray) ++ t) (⟨#[10]⟩ : ByteArray) 0 (by decide)
    rw [s2] at h
    rw [show t.size + 2 = t.size + 2 + 0 from rfl, h]; rfl
  · have h := bt_cat_right (v ++ (⟨#[37]⟩ : ByteArray) ++ t ++ (⟨#[10]⟩ : ByteArray)) v 0 (by omega)
    rw [s3] at h
    exact h
/-- Behind it the next token is the same, so much farther on. -/
theorem white_next (v t s : ByteArray) (hv : v.size = 1) (hk : kF (bt v ((0 : Nat) : Int)) = 0) (ht : ∀ j, j < t.size → bt t (j : Int) ≠ 10 ∧ bt t (j : Int) ≠ 13) : nextF (whiteA v t ++ s) 0 = shN (whiteA v t).size (nextF s 0) := by
  have hA := whiteA_size v t hv
  obtain ⟨b0, b1, b2, b3, b4⟩ := whiteA_bytes v t hv
  have H := Sh.cat (whiteA v t) s
  have hl : ∀ i : Nat, i < t.size + 4 → bt (whiteA v t ++ s) (i : Int) = bt (whiteA v t) (i : Int) := fun i hi => bt_cat_left _ _ _ (by rw [hA]; omega)
  generalize hS : whiteA v t ++ s = S at *
  have c0 := (hl 0 (by omega)).trans b0
  have c1 := (hl 1 (by omega)).trans b1
  have c2 : ∀ j, j < t.size → bt S ((2 + j : Nat) : Int) = bt t (j : Int) := fun j hj => (hl (2 + j) (by omega)).trans (b2 j hj)
  have c3 := (hl (t.size + 2) (by omega)).trans b3
  have c4 := (hl (t.size + 3) (by omega)).trans b4
  rw [hA] at H ⊢
  have hsz := H.size
  have k37 : kF 37 = 1 := by decide
  have k10 : kF 10 = 0 := by decide
  have hsp : spanN [0] S 0 = 1 := by
    rw [spanN_cons S [0] 0 (by omega) (by rw [c0, hk]; decide), spanN_stop S [0] 1 (by omega) (by rw [c1, k37]; decide)]
  have hsp2 : spanN [0] S (t.size + 2) = 2 + spanN [0] S (t.size + 4) := by
    rw [spanN_cons S [0] (t.size + 2) (by omega) (by rw [c3, k10]; decide), spanN_cons S [0] (t.size + 2 + 1) (by omega) (by
      rw [show t.size + 2 + 1 = t.size + 3 from rfl, c4, hk]; decide), show t.size + 2 + 1 + 1 = t.size + 4 from rfl]
    omega
  have hno : noteL S S.size 1 = t.size + 2 := by
    refine noteL_to S (t.size + 2) ?_ S.size 1 (by omega) (by omega) ?_
    · intro h
      have h2 := h.2
      unfold endsN at h2
      rw [if_pos (by omega), if_pos c3] at h2
      exact absurd h2 (by decide)
    · intro j h1 h2
      refine ⟨by omega, ?_⟩
      by_cases hj : j = 1
      · subst hj
        exact ends_no S 1 (by rw [c1]; decide) (by rw [c1]; decide)
      · obtain ⟨i, rfl⟩ : ∃ i, j = 2 + i := ⟨j - 2, by omega⟩
        have hh := ht i (by omega)
        exact ends_no S (2 + i) (by rw [c2 i (by omega)]; exact hh.1) (by rw [c2 i (by omega)]; exact hh.2)
  have hskip : Hand.skipN S 0 = t.size + 4 + Hand.skipN s ((0 : Nat) : Int) := by
    unfold Hand.skipN
    rw [show clampN S 0 = 0 from clampN_nat S 0 (by omega), clampN_nat s 0 (by omega), skipF, hsp, if_pos ⟨by omega, c1⟩, hno]
    have h2 := H.skip (s.size + 1) S.size 0 (by omega) (by omega) (by omega)
    rw [Nat.add_zero] at h2
    rw [← h2]
    obtain ⟨k, hk2⟩ : ∃ k, S.size = k + 1 := ⟨S.size - 1, by omega⟩
    have e3 : t.size + 2 + spanN [0] S (t.size + 2) = t.size + 4 + spanN [0] S (t.size + 4) := by omega
    rw [hk2, skipF, skipF, e3]
  exact H.next_at 0 0 (by omega) hskip
end Go.Proofs.Ytkmmmlbppobifaa.Hand
