/- token.All in plain numbers: its shape. -/
import Derived.Test.YtkmmmlbppobifaaHand15m
namespace Go.Proofs.Ytkmmmlbppobifaa.Hand
open Go.RowKit Go.Proofs.YtkmmmlbppobifaaW.PrintWords Go.Proofs.YtkmmmlbppobifaaW.PrintLast Go.Proofs.YtkmmmlbppobifaaW.PrintMore Go.Proofs.Ytkmmmlbppobifaa.Num Go.Proofs.Ytkmmmlbppobifaa.P01a
set_option linter.unusedVariables false
set_option linter.unusedSimpArgs false
abbrev tok0 : Tok := ⟨0, 0, ⟨#[]⟩, 0, 0⟩
structure Ends (l a : List (Int × Tok)) (x : Int × Tok) : Prop where
 eq : l = a ++ [x]
 ok : ∀ y ∈ a, y.1 = 0 ∧ y.2.kind ≠ 0
 last : (x.1 = 0 ∧ x.2.kind = 0) ∨ (x.1 ≠ 0 ∧ x.2 = tok0)
theorem toks_ends (s : ByteArray) : ∀ (f i : Nat), i ≤ s.size → s.size + 2 ≤ f + i → ∃ a x, Ends (toksFrom s f i) a x
 | 0, i, h1, h2 => by omega
 | f + 1, i, h1, h2 => by
  rw [toksFrom]
  have hge := skipN_ge s (i : Int)
  rw [clampN_nat s i h1] at hge
  by_cases h : (nextF s (i : Int)).1 = 0 ∧ (nextF s (i : Int)).2.kind ≠ 0
  ·obtain ⟨_, _, h3, _⟩ := nextF_ok s (i : Int) h.1
   obtain ⟨e, he, he1, he2⟩ := h3 h.2
   rw [if_pos h, he, Int.toNat_natCast]
   obtain ⟨a, x, H⟩ := toks_ends s f e he2 (by omega)
   refine ⟨nextF s (i : Int) :: a, x, ⟨by rw [H.eq]; rfl, fun y hy => ?_, H.last⟩⟩
   rcases List.mem_cons.1 hy with rfl | hy
   ·exact h
   ·exact H.ok y hy
  ·rw [if_neg h]
   refine ⟨[], nextF s (i : Int), ⟨rfl, by simp, ?_⟩⟩
   by_cases h0 : (nextF s (i : Int)).1 = 0
   ·exact .inl ⟨h0, Classical.byContradiction fun h2 => h ⟨h0, h2⟩⟩
   ·exact .inr ⟨h0, nextF_bad s (i : Int) h0⟩
theorem toksN_ends (s : ByteArray) : ∃ a x, Ends (toksN s) a x := toks_ends s _ _ (Nat.zero_le _) (by omega)
theorem ends_cnt {l a : List (Int × Tok)} {x : Int × Tok} (h : Ends l a x) : cntL l 0 = ((a.length : Int), x.1) := by
 have hk : okT a = a.length := by
  unfold okT
  rw [List.countP_eq_length]
  intro y hy
  exact decide_eq_true (h.ok y hy).2
 rw [h.eq, cntL_pre a [x] 0 (fun y hy => (h.ok y hy).1), hk, Int.zero_add, cntL]
 rcases h.last with ⟨h1, h2⟩ | ⟨h1, h2⟩
 ·rw [if_neg (by omega), if_neg (by omega), cntL, h1]
 ·rw [if_pos h1]
def Bad (l : List (Int × Tok)) : Prop := ∃ a x b, l = a ++ x :: b ∧ x.1 ≠ 0 ∧ (b ≠ [] ∨ x.2 ≠ tok0)
theorem bad_app {l c : List (Int × Tok)} (h : Bad l) : Bad (l ++ c) := by
 obtain ⟨a, x, b, rfl, h1, h2⟩ := h
 refine ⟨a, x, b ++ c, by simp, h1, ?_⟩
 rcases h2 with h2 | h2
 ·exact .inl (by simp [h2])
 ·exact .inr h2
theorem ends_not_bad {l a : List (Int × Tok)} {x : Int × Tok} (h : Ends l a x) : ¬ Bad l := by
 rintro ⟨p, y, q, e, h1, h2⟩
 rw [h.eq] at e
 rcases List.append_eq_append_iff.1 e with ⟨c, hc1, hc2⟩ | ⟨c, hc1, hc2⟩
 ·cases c with
  | nil =>
   rw [List.nil_append] at hc2
   injection hc2 with e1 e2
   subst e1
   rcases h2 with h2 | h2
   ·exact h2 e2.symm
   ·rcases h.last with h3 | h3
    ·exact h1 h3.1
    ·exact h2 h3.2
  | cons d c =>
   rw [List.cons_append] at hc2
   injection hc2 with e1 e2
   have := congrArg List.length e2
   simp at this
 ·cases c with
  | nil =>
   rw [List.nil_append] at hc2
   injection hc2 with e1 e2
   subst e1
   rcases h2 with h2 | h2
   ·exact h2 e2
   ·rcases h.last with h3 | h3
    ·exact h1 h3.1
    ·exact h2 h3.2
  | cons d c =>
   rw [List.cons_append] at hc2
   injection hc2 with e1 e2
   subst e1
   exact h1 (h.ok y (by rw [hc1]; simp)).1
def lastC : List (Int × Tok) → Int
 | [] => 0
 | [x] => x.1
 | _ :: y :: l => lastC (y :: l)
theorem lastC_snoc : ∀ (l : List (Int × Tok)) (x : Int × Tok), lastC (l ++ [x]) = x.1
 | [], x => rfl
 | [y], x => rfl
 | _ :: y :: l, x => lastC_snoc (y :: l) x
theorem lastC_bad : ∀ (l : List (Int × Tok)) (x : Int × Tok), lastC l ≠ 0 → Bad (l ++ [x])
 | [], x, h => absurd rfl h
 | [y], x, h => ⟨[], y, [x], rfl, h, .inl (by simp)⟩
 | z :: y :: l, x, h => by
  obtain ⟨a, u, b, e, h1, h2⟩ := lastC_bad (y :: l) x h
  exact ⟨z :: a, u, b, by rw [List.cons_append, e]; rfl, h1, h2⟩
theorem now_bad (l : List (Int × Tok)) (x : Int × Tok) (h : x.1 ≠ 0) (h2 : x.2 ≠ tok0) : Bad (l ++ [x]) := ⟨l, x, [], rfl, h, .inr h2⟩
def oksL (l : List (Int × Tok)) : List Tok := l.flatMap (fun y => if y.1 = 0 then [y.2] else [])
theorem oksL_snoc (l : List (Int × Tok)) (x : Int × Tok) : oksL (l ++ [x]) = oksL l ++ (if x.1 = 0 then [x.2] else []) := by
 unfold oksL
 rw [List.flatMap_append]
 congr 1
 simp
theorem oksL_le (l : List (Int × Tok)) : (oksL l).length ≤ l.length := by
 induction l with
 | nil => exact Nat.le_refl _
 | cons x l ih =>
  have e : oksL (x :: l) = (if x.1 = 0 then [x.2] else []) ++ oksL l := rfl
  rw [e, List.length_append, List.length_cons]
  split
  ·rw [List.length_singleton]; omega
  ·rw [List.length_nil]; omega
def tokCells (l : List Tok) : List Value := l.flatMap (fun t => t.cells.toList)
theorem tokCells_snoc (l : List Tok) (x : Tok) : tokCells (l ++ [x]) = tokCells l ++ x.cells.toList := by
 unfold tokCells
 rw [List.flatMap_append]
 simp
end Go.Proofs.Ytkmmmlbppobifaa.Hand
