/- Tokens in plain numbers: a token does not hang on what stands ahead of it. -/
import Derived.Test.YtkmmmlbppobifaaLem15a
namespace Go.Proofs.Ytkmmmlbppobifaa.Hand
open Go.RowKit Go.Proofs.YtkmmmlbppobifaaW.PrintWords Go.Proofs.YtkmmmlbppobifaaW.PrintLast Go.Proofs.YtkmmmlbppobifaaW.PrintMore Go.Proofs.Ytkmmmlbppobifaa.Num Go.Proofs.Ytkmmmlbppobifaa.P01a
set_option linter.unusedVariables false
set_option linter.unusedSimpArgs false
/-- One text behind m bytes of another one. -/
structure Sh (m : Nat) (s s' : ByteArray) : Prop where
  size : s'.size = m + s.size
  bt : ∀ i : Nat, bt s' ((m + i : Nat) : Int) = bt s (i : Int)
theorem bt_out (s : ByteArray) (i : Nat) (h : s.size ≤ i) : bt s (i : Int) = 0 := by
  unfold bt
  rw [dif_neg (by omega)]
theorem Sh.cat (t s : ByteArray) : Sh t.size s (t ++ s) := by
  have hsz : (t ++ s).size = t.size + s.size := ByteArray.size_append
  refine ⟨hsz, fun i => ?_⟩
  by_cases h : i < s.size
  · exact bt_cat_right t s i h
  · rw [bt_out _ _ (by omega), bt_out _ _ (by omega)]
section
variable {m : Nat} {s s' : ByteArray}
theorem Sh.lt (H : Sh m s s') (p : Nat) : (m + p < s'.size) = (p < s.size) := by rw [H.size]; exact propext ⟨by omega, by omega⟩
theorem Sh.ends (H : Sh m s s') (p : Nat) : endsN s' (m + p) = endsN s p := by
  unfold endsN
  simp only [H.lt, H.bt, Nat.add_assoc m p 1]
theorem Sh.drop (H : Sh m s s') (p : Nat) : (bytesOf s').drop (m + p) = (bytesOf s).drop p := by
  apply List.ext_getElem?
  intro i
  simp only [List.getElem?_drop, bytesOf_get?, Nat.add_assoc, H.lt, H.bt]
theorem Sh.span (H : Sh m s s') (ks : List Int) (p : Nat) : spanN ks s' (m + p) = spanN ks s p := by unfold spanN; rw [H.drop]
theorem Sh.note (H : Sh m s s') : ∀ (k k' p : Nat), p ≤ s.size → s.size ≤ p + k → s.size ≤ p + k' → noteL s' k' (m + p) = m + noteL s k p
  | 0, 0, p, hp, h1, h2 => rfl
  | 0, k' + 1, p, hp, h1, h2 => by
    have h3 : ¬ p < s.size := by omega
    simp only [noteL, H.lt, h3, false_and, if_false]
  | k + 1, 0, p, hp, h1, h2 => by
    have h3 : ¬ p < s.size := by omega
    simp only [noteL, h3, false_and, if_false]
  | k + 1, k' + 1, p, hp, h1, h2 => by
    simp only [noteL, H.lt, H.ends, Nat.add_assoc]
    split
    · exact H.note k k' (p + 1) (by omega) (by omega) (by omega)
    · rfl
theorem Sh.skip (H : Sh m s s') : ∀ (k k' p : Nat), p ≤ s.size → s.size < p + k → s.size < p + k' → skipF s' k' (m + p) = m + skipF s k p
  | 0, _, p, hp, h1, h2 => absurd h1 (by omega)
  | _ + 1, 0, p, hp, h1, h2 => absurd h2 (by omega)
  | k + 1, k' + 1, p, hp, h1, h2 => by
    have hl := spanN_le [0] s p hp
    simp only [skipF, H.span, Nat.add_assoc, H.lt, H.bt]
    split
    · rename_i h
      rw [H.note s.size s'.size _ hl (by omega) (by rw [H.size]; omega)]
      have hg := noteL_gt s (s.size - 1) _ h.1 h.2
      rw [show s.size - 1 + 1 = s.size by omega] at hg
      exact H.skip k k' _ (noteL_le s _ _ hl).2 (by omega) (by omega)
    · rfl
theorem Sh.esc (H : Sh m s s') (p : Nat) : escF s' (m + p) = escF s p := by
  unfold escF
  simp only [H.lt, H.bt, Nat.add_assoc m p 1]
theorem Sh.oct (H : Sh m s s') : ∀ (k p : Nat) (n : Int), octF s' k (m + p) n = (m + (octF s k p n).1, (octF s k p n).2)
  | 0, p, n => rfl
  | k + 1, p, n => by
    simp only [octF, H.lt, H.bt, Nat.add_assoc]
    split
    · exact H.oct k (p + 1) _
    · rfl
theorem Sh.escape (H : Sh m s s') (p : Nat) : escapeF s' (m + p) = (escapeF s p).map (fun r => (r.1, m + r.2)) := by
  unfold escapeF
  simp only [H.lt, H.ends, H.bt, H.oct, Nat.add_assoc]
  split
  · split
    · rfl
    · split
      · rfl
      · rfl
  · rfl
def shR (m : Nat) (r : Int × List Int × Nat) : Int × List Int × Nat := (r.1, r.2.1, if r.1 = 0 then m + r.2.2 else r.2.2)
theorem Sh.name (H : Sh m s s') : ∀ (k k' p : Nat) (o : List Int), p ≤ s.size → s.size < p + k → s.size < p + k' → nameF s' k' (m + p) o = shR m (nameF s k p o)
  | 0, _, p, o, hp, h1, h2 => absurd h1 (by omega)
  | _ + 1, 0, p, o, hp, h1, h2 => absurd h2 (by omega)
  | k + 1, k' + 1, p, o, hp, h1, h2 => by
    simp only [nameF, H.lt, H.bt, Nat.add_assoc, H.esc]
    split
    · rename_i h3
      split
      · cases he : escF s (p + 1) with
        | none => rfl
        | some c =>
          have hr := escF_range he
          dsimp only
          split
          · rfl
          · exact H.name k k' (p + 3) _ (by omega) (by omega) (by omega)
      · split
        · rfl
        · exact H.name k k' (p + 1) _ (by omega) (by omega) (by omega)
    · rfl
theorem Sh.text (H : Sh m s s') : ∀ (k k' p d : Nat) (o : List Int), p ≤ s.size → s.size < p + k → s.size < p + k' → textF s' k' (m + p) d o = shR m (textF s k p d o)
  | 0, _, p, d, o, hp, h1, h2 => absurd h1 (by omega)
  | _ + 1, 0, p, d, o, hp, h1, h2 => absurd h2 (by omega)
  | k + 1, k' + 1, p, d, o, hp, h1, h2 => by
    have hel := endsN_le s p hp
    simp only [textF, H.lt, H.bt, H.ends, Nat.add_assoc, H.escape]
    split
    · rename_i h3
      split
      · exact H.text k k' _ _ _ hel (by omega) (by omega)
      · split
        · cases he : escapeF s (p + 1) with
          | none => rfl
          | some r =>
            obtain ⟨xs, q⟩ := r
            have hr := escapeF_range (by omega) he
            exact H.text k k' q _ _ hr.2.1 (by omega) (by omega)
        · split
          · exact H.text k k' (p + 1) _ _ (by omega) (by omega) (by omega)
          · split
            · split
              · rfl
              · exact H.text k k' (p + 1) _ _ (by omega) (by omega) (by omega)
            · exact H.text k k' (p + 1) _ _ (by omega) (by omega) (by omega)
    · rfl
theorem Sh.hexl (H : Sh m s s') : ∀ (k k' p : Nat) (o : List Int) (hf : Int), p ≤ s.size → s.size < p + k → s.size < p + k' → hexL s' k' (m + p) o hf = shR m (hexL s k p o hf)
  | 0, _, p, o, hf, hp, h1, h2 => absurd h1 (by omega)
  | _ + 1, 0, p, o, hf, hp, h1, h2 => absurd h2 (by omega)
  | k + 1, k' + 1, p, o, hf, hp, h1, h2 => by
    simp only [hexL, H.lt, H.bt, Nat.add_assoc]
    split
    · split
      · rfl
      · split
        · split
          · exact H.hexl k k' (p + 1) _ _ (by omega) (by omega) (by omega)
          · exact H.hexl k k' (p + 1) _ _ (by omega) (by omega) (by omega)
        · split
          · exact H.hexl k k' (p + 1) _ _ (by omega) (by omega) (by omega)
          · rfl
    · rfl
def shT (m : Nat) (r : Int × Int × Int × ByteArray × Nat) : Int × Int × Int × ByteArray × Nat := (r.1, r.2.1, r.2.2.1, r.2.2.2.1, if r.1 = 0 then m + r.2.2.2.2 else r.2.2.2.2)
theorem tokOf_sh (kind : Int) (m : Nat) (r : Int × List Int × Nat) : tokOf kind (shR m r) = shT m (tokOf kind r) := by
  obtain ⟨c, o, p⟩ := r
  unfold tokOf shR shT
  dsimp only
  by_cases h : c = 0
  · subst h; rfl
  · simp only [if_neg h]
theorem Sh.cut (H : Sh m s s') (p q : Nat) : s'.extract (m + p) (m + q) = s.extract p q := by
  apply bytes_ext
  rw [bytesOf_extract, bytesOf_extract, List.drop_take, List.drop_take, H.drop p, show m + q - (m + p) = q - p by omega]
theorem Sh.word (H : Sh m s s') (p : Nat) : wordF s' (m + p) = shT m (wordF s p) := by
  rw [wordF_def (s := s') (p := m + p) rfl rfl rfl rfl, wordF_def (s := s) (p := p) rfl rfl rfl rfl, H.span, Nat.add_assoc, H.cut]
  split
  · rename_i h; simp only [shT, if_true]
  · split
    · rfl
    · split
      · rfl
      · rfl
theorem Sh.twice (H : Sh m s s') (p : Nat) : twiceB s' (m + p) = twiceB s p := by
  unfold twiceB
  simp only [H.lt, H.bt, Nat.add_assoc m p 1]
theorem Sh.token (H : Sh m s s') (p : Nat) (hp : p < s.size) : tokenF s' (m + p) = shT m (tokenF s p) := by
  unfold tokenF
  rw [H.bt, H.twice, H.word, Nat.add_assoc, Nat.add_assoc, H.name s.size s'.size (p + 1) [] hp (by omega) (by rw [H.size]; omega), H.text s.size s'.size (p + 1) 1 [] hp (by omega) (by rw [H.size]; omega), H.hexl s.size s'.size (p + 1) [] (-1) hp (by omega) (by rw [H.size]; omega), tokOf_sh, tokOf_sh, tokOf_sh]
  repeat' split
  all_goals rfl
def shN (m : Nat) (r : Int × Tok) : Int × Tok := if r.1 = 0 then (r.1, ⟨r.2.kind, r.2.n, r.2.s, r.2.at_ + (m : Int), r.2.end_ + (m : Int)⟩) else r
theorem Sh.skipN (H : Sh m s s') (i : Nat) (hi : i ≤ s.size) : skipN s' ((m + i : Nat) : Int) = m + skipN s (i : Int) := by
  unfold Hand.skipN
  rw [clampN_nat s i hi, clampN_nat s' (m + i) (by rw [H.size]; omega)]
  exact H.skip _ _ i hi (by omega) (by rw [H.size]; omega)
theorem Sh.next_at (H : Sh m s s') (a : Int) (i : Nat) (hi : i ≤ s.size) (hq : Hand.skipN s' a = m + Hand.skipN s (i : Int)) : nextF s' a = shN m (nextF s (i : Int)) := by
  have hle := skipN_le s (i : Int)
  unfold nextF
  rw [hq]
  generalize Hand.skipN s (i : Int) = q at *
  rw [H.size]
  by_cases h : q = s.size
  · rw [if_pos (by omega), if_pos h]
    unfold shN
    simp only [if_true]
    congr 2 <;> omega
  · rw [if_neg (by omega), if_neg h, H.token q (by omega)]
    unfold shT shN
    dsimp only
    by_cases h2 : (tokenF s q).1 = 0
    · simp only [if_pos h2, if_true]
      congr 2 <;> omega
    · simp only [if_neg h2]
theorem Sh.next (H : Sh m s s') (i : Nat) (hi : i ≤ s.size) : nextF s' ((m + i : Nat) : Int) = shN m (nextF s (i : Int)) := H.next_at _ i hi (H.skipN i hi)
end
end Go.Proofs.Ytkmmmlbppobifaa.Hand
