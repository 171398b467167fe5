/- Tokens in plain numbers: where they end. -/
import Derived.Test.YtkmmmlbppobifaaHand15q
namespace Go.Proofs.Ytkmmmlbppobifaa.Hand
open Go.RowKit Go.Proofs.YtkmmmlbppobifaaW.PrintWords Go.Proofs.YtkmmmlbppobifaaW.PrintLast Go.Proofs.YtkmmmlbppobifaaW.PrintMore Go.Proofs.Ytkmmmlbppobifaa.Num Go.Proofs.Ytkmmmlbppobifaa.P01a
set_option linter.unusedVariables false
set_option linter.unusedSimpArgs false
theorem nameF_ge (s : ByteArray) : ∀ (k p : Nat) (o : List Int), p ≤ s.size → (nameF s k p o).1 = 0 → p ≤ (nameF s k p o).2.2 ∧ (nameF s k p o).2.2 ≤ s.size
 | 0, p, o, hp, h => by rw [nameF] at h; exact absurd h (by decide)
 | k + 1, p, o, hp, h => by
  rw [nameF] at h ⊢
  split at h
  ·rename_i h1
   rw [if_pos h1]
   split at h
   ·rename_i h2
    rw [if_pos h2]
    cases he : escF s (p + 1) with
    | none => rw [he] at h; exact absurd (show (4 : Int) = 0 from h) (by decide)
    | some c =>
     rw [he] at h
     dsimp only at h ⊢
     have hr := escF_range he
     split at h
     ·exact absurd h (by decide)
     ·rename_i h3
      rw [if_neg h3]
      have := nameF_ge s k (p + 3) _ (by omega) h
      omega
   ·rename_i h2
    rw [if_neg h2]
    split at h
    ·exact absurd h (by decide)
    ·rename_i h3
     rw [if_neg h3]
     have := nameF_ge s k (p + 1) _ (by omega) h
     omega
  ·rename_i h1
   rw [if_neg h1]
   exact ⟨Nat.le_refl _, hp⟩
theorem textF_ge (s : ByteArray) : ∀ (k p d : Nat) (o : List Int), p ≤ s.size → (textF s k p d o).1 = 0 → p ≤ (textF s k p d o).2.2 ∧ (textF s k p d o).2.2 ≤ s.size
 | 0, p, d, o, hp, h => by rw [textF] at h; exact absurd h (by decide)
 | k + 1, p, d, o, hp, h => by
  have hel := endsN_le s p hp
  rw [textF] at h ⊢
  split at h
  ·rename_i h1
   rw [if_pos h1]
   split at h
   ·rename_i h2
    rw [if_pos h2]
    have := textF_ge s k _ _ _ hel h
    omega
   ·rename_i h2
    rw [if_neg h2]
    split at h
    ·rename_i h3
     rw [if_pos h3]
     cases he : escapeF s (p + 1) with
     | none => rw [he] at h; exact absurd (show (5 : Int) = 0 from h) (by decide)
     | some r =>
      obtain ⟨xs, q⟩ := r
      rw [he] at h
      dsimp only at h ⊢
      have hr := escapeF_range (by omega) he
      have := textF_ge s k _ _ _ hr.2.1 h
      omega
    ·rename_i h3
     rw [if_neg h3]
     split at h
     ·rename_i h4
      rw [if_pos h4]
      have := textF_ge s k _ _ _ (by omega) h
      omega
     ·rename_i h4
      rw [if_neg h4]
      split at h
      ·rename_i h5
       rw [if_pos h5]
       split at h
       ·rename_i h6
        rw [if_pos h6]
        exact ⟨Nat.le_succ _, h1⟩
       ·rename_i h6
        rw [if_neg h6]
        have := textF_ge s k _ _ _ (by omega) h
        omega
      ·rename_i h5
       rw [if_neg h5]
       have := textF_ge s k _ _ _ (by omega) h
       omega
  ·exact absurd h (by decide)
theorem hexL_ge (s : ByteArray) : ∀ (k p : Nat) (o : List Int) (hf : Int), p ≤ s.size → (hexL s k p o hf).1 = 0 → p ≤ (hexL s k p o hf).2.2 ∧ (hexL s k p o hf).2.2 ≤ s.size
 | 0, p, o, hf, hp, h => by rw [hexL] at h; exact absurd h (by decide)
 | k + 1, p, o, hf, hp, h => by
  rw [hexL] at h ⊢
  split at h
  ·rename_i h1
   rw [if_pos h1]
   split at h
   ·rename_i h2
    rw [if_pos h2]
    exact ⟨Nat.le_succ _, h1⟩
   ·rename_i h2
    rw [if_neg h2]
    split at h
    ·rename_i h3
     rw [if_pos h3]
     split at h
     ·rename_i h4
      rw [if_pos h4]
      have := hexL_ge s k _ _ _ (by omega) h
      omega
     ·rename_i h4
      rw [if_neg h4]
      have := hexL_ge s k _ _ _ (by omega) h
      omega
    ·rename_i h3
     rw [if_neg h3]
     split at h
     ·rename_i h4
      rw [if_pos h4]
      have := hexL_ge s k _ _ _ (by omega) h
      omega
     ·exact absurd h (by decide)
  ·exact absurd h (by decide)
theorem skipF_at (s : ByteArray) : ∀ (k p : Nat), p ≤ s.size → s.size < p + k → skipF s k p < s.size → kF (bt s (skipF s k p : Int)) ≠ 0 ∧ bt s (skipF s k p : Int) ≠ 37
 | 0, p, hp, hk, h => absurd hk (by omega)
 | k + 1, p, hp, hk, h => by
  have hsl := spanN_le [0] s p hp
  rw [skipF] at h ⊢
  split at h
  ·rename_i h1
   rw [if_pos h1]
   have hg := noteL_gt s (s.size - 1) (p + spanN [0] s p) h1.1 h1.2
   rw [show s.size - 1 + 1 = s.size by omega] at hg
   exact skipF_at s k _ (noteL_le s _ _ hsl).2 (by omega) h
  ·rename_i h1
   rw [if_neg h1]
   refine ⟨?_, fun h2 => h1 ⟨h, h2⟩⟩
   intro h3
   have hst : ∀ (ks : List Int) (cs : List Int), ∀ c, (cs.drop (spanL ks cs)).head? = some c → ks.contains (kF c) = false := by
    intro ks cs
    induction cs with
    | nil => intro c h; simp at h
    | cons c cs ih =>
     intro x hx
     rw [spanL] at hx
     split at hx
     ·exact ih x (by simpa [List.drop_succ_cons] using hx)
     ·rename_i hn
      simp only [List.drop_zero, List.head?_cons, Option.some.injEq] at hx
      subst hx
      simpa using hn
   have h4 := hst [0] ((bytesOf s).drop p) (bt s ((p + spanN [0] s p : Nat) : Int)) (by
    rw [List.drop_drop]
    have := drop_bytes s (p + spanN [0] s p) h
    unfold spanN at this ⊢
    rw [this]; rfl)
   rw [h3] at h4
   exact absurd h4 (by decide)
theorem kF_del (c : Int) (h0 : 0 ≤ c ∧ c ≤ 255) (hk : kF c ≠ 0) (h1 : c ≠ 91) (h2 : c ≠ 93) (h3 : c ≠ 47) (h4 : c ≠ 40) (h5 : c ≠ 60) (h6 : c ≠ 62) (h7 : ¬ (c = 41 ∨ c = 123 ∨ c = 125)) (h8 : c ≠ 37) : kF c = 2 := by
 obtain ⟨n, hn⟩ := Int.eq_ofNat_of_zero_le h0.1
 subst hn
 have key : ∀ m : Fin 256, kF ((m.val : Nat) : Int) ≠ 0 → (m.val ≠ 91 ∧ m.val ≠ 93 ∧ m.val ≠ 47 ∧ m.val ≠ 40 ∧ m.val ≠ 60 ∧ m.val ≠ 62 ∧ m.val ≠ 41 ∧ m.val ≠ 123 ∧ m.val ≠ 125 ∧ m.val ≠ 37) → kF ((m.val : Nat) : Int) = 2 := by decide +kernel
 have hk2 := key ⟨n, by omega⟩
 dsimp only at hk2
 exact hk2 hk ⟨by omega, by omega, by omega, by omega, by omega, by omega, by omega, by omega, by omega, by omega⟩
theorem tokOf_end {kind : Int} {r : Int × List Int × Nat} (h : (tokOf kind r).1 = 0) : r.1 = 0 ∧ (tokOf kind r).2.2.2.2 = r.2.2 ∧ (tokOf kind r).2.1 = kind := by
 unfold tokOf at h ⊢
 split at h
 ·rename_i h1
  rw [if_pos h1]
  exact ⟨h1, rfl, rfl⟩
 ·rename_i h1
  exact absurd h h1
theorem tokenF_end (s : ByteArray) (p : Nat) (hp : p < s.size) (hk : kF (bt s (p : Int)) ≠ 0) (hn : bt s (p : Int) ≠ 37) (h : (tokenF s p).1 = 0) : p < (tokenF s p).2.2.2.2 ∧ (tokenF s p).2.2.2.2 ≤ s.size ∧ 0 < (tokenF s p).2.1 := by
 have hb := bt_range s (p : Int)
 unfold tokenF at h ⊢
 split at h
 ·rename_i h1; rw [if_pos h1]; exact ⟨Nat.lt_succ_self _, hp, by simp⟩
 rename_i h1; rw [if_neg h1]
 split at h
 ·rename_i h1; rw [if_pos h1]; exact ⟨Nat.lt_succ_self _, hp, by simp⟩
 rename_i h2; rw [if_neg h2]
 split at h
 ·rename_i h1
  rw [if_pos h1]
  obtain ⟨g1, g2, g3⟩ := tokOf_end h
  have := nameF_ge s _ (p + 1) [] hp g1
  rw [g2, g3]
  exact ⟨by omega, this.2, by decide⟩
 rename_i h3; rw [if_neg h3]
 split at h
 ·rename_i h1
  rw [if_pos h1]
  obtain ⟨g1, g2, g3⟩ := tokOf_end h
  have := textF_ge s _ (p + 1) _ [] hp g1
  rw [g2, g3]
  exact ⟨by omega, this.2, by decide⟩
 rename_i h4; rw [if_neg h4]
 split at h
 ·rename_i h1
  rw [if_pos h1]
  split at h
  ·rename_i h9
   rw [if_pos h9]
   have := of_decide_eq_true h9
   exact ⟨by show p < p + 2; omega, this.1, by simp⟩
  ·rename_i h9
   rw [if_neg h9]
   obtain ⟨g1, g2, g3⟩ := tokOf_end h
   have := hexL_ge s _ (p + 1) [] _ hp g1
   rw [g2, g3]
   exact ⟨by omega, this.2, by decide⟩
 rename_i h5; rw [if_neg h5]
 split at h
 ·rename_i h1
  rw [if_pos h1]
  split at h
  ·rename_i h9
   rw [if_pos h9]
   have := of_decide_eq_true h9
   exact ⟨by show p < p + 2; omega, this.1, by simp⟩
  ·exact absurd h (by decide)
 rename_i h6; rw [if_neg h6]
 split at h
 ·exact absurd h (by decide)
 rename_i h7; rw [if_neg h7]
 have h2k := kF_del _ hb hk h1 h2 h3 h4 h5 h6 h7 hn
 have hs1 : 1 ≤ spanN [2] s p := by
  unfold spanN
  rw [drop_bytes s p hp, spanL, if_pos (by rw [h2k]; rfl)]; omega
 have hs2 := spanN_le [2] s p (Nat.le_of_lt hp)
 have hw := wordF_def (s := s) (p := p) rfl rfl rfl rfl
 rw [hw] at h ⊢
 split at h
 ·rename_i h1
  rw [if_pos h1]
  exact ⟨by show p < p + _; omega, hs2, by simp⟩
 rename_i h8; rw [if_neg h8]
 split at h
 ·exact absurd h (by decide)
 rename_i h9; rw [if_neg h9]
 split at h
 ·exact absurd h (by decide)
 rename_i h10; rw [if_neg h10]
 exact ⟨by show p < p + _; omega, hs2, by simp⟩
theorem skipF_ge (s : ByteArray) : ∀ (k p : Nat), p ≤ s.size → p ≤ skipF s k p
 | 0, p, h => Nat.le_refl _
 | k + 1, p, h => by
  have h1 := spanN_le [0] s p h
  have h2 := noteL_le s s.size _ h1
  rw [skipF]
  split
  ·have := skipF_ge s k _ h2.2
   omega
  ·omega
theorem skipN_le (s : ByteArray) (a : Int) : skipN s a ≤ s.size := skipF_le s _ _ (clampN_le s a)
theorem skipN_ge (s : ByteArray) (a : Int) : clampN s a ≤ skipN s a := skipF_ge s _ _ (clampN_le s a)
theorem clampN_nat (s : ByteArray) (p : Nat) (h : p ≤ s.size) : clampN s (p : Int) = p := by unfold clampN; omega
theorem nextF_ok (s : ByteArray) (a : Int) (h : (nextF s a).1 = 0) : (nextF s a).2.at_ = (skipN s a : Int) ∧ ((nextF s a).2.kind = 0 → (nextF s a).2 = ⟨0, 0, ⟨#[]⟩, skipN s a, skipN s a⟩ ∧ skipN s a = s.size) ∧ ((nextF s a).2.kind ≠ 0 → ∃ e : Nat, (nextF s a).2.end_ = (e : Int) ∧ skipN s a < e ∧ e ≤ s.size) ∧ 0 ≤ (nextF s a).2.kind := by
 have hle := skipN_le s a
 unfold nextF at h ⊢
 split at h
 ·rename_i h1
  rw [if_pos h1]
  exact ⟨rfl, fun _ => ⟨rfl, h1⟩, fun h => absurd rfl h, Int.le_refl _⟩
 rename_i h1; rw [if_neg h1]
 have hat := skipF_at s (s.size + 1) (clampN s a) (clampN_le s a) (by omega) (show skipN s a < s.size by omega)
 split at h
 ·rename_i h2
  rw [if_pos h2]
  have he := tokenF_end s (skipN s a) (by omega) hat.1 hat.2 h2
  exact ⟨rfl, fun h => absurd h (by have := he.2.2; dsimp only; omega), fun _ => ⟨_, rfl, he.1, he.2.1⟩, by have := he.2.2; dsimp only; omega⟩
 ·rename_i h2
  exact absurd h h2
theorem nextF_bad (s : ByteArray) (a : Int) (h : (nextF s a).1 ≠ 0) : (nextF s a).2 = ⟨0, 0, ⟨#[]⟩, 0, 0⟩ := by
 unfold nextF at h ⊢
 split at h
 ·exact absurd rfl h
 rename_i h1; rw [if_neg h1]
 split at h
 ·exact absurd rfl h
 rename_i h2; rw [if_neg h2]
end Go.Proofs.Ytkmmmlbppobifaa.Hand
