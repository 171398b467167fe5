/- The document's All is the list of tokens. -/
import Derived.Test.YtkmmmlbppobifaaLem15z
import Derived.Test.YtkmmmlbppobifaaLem15T
import Derived.Test.YtkmmmlbppobifaaP15rx6
namespace Go.Proofs.Ytkmmmlbppobifaa.Hand
open Go.RowKit Go.Proofs.YtkmmmlbppobifaaW.PrintWords Go.Proofs.YtkmmmlbppobifaaW.PrintLast Go.Proofs.YtkmmmlbppobifaaW.PrintMore Go.Proofs.Ytkmmmlbppobifaa.Num Go.Proofs.Ytkmmmlbppobifaa.P01b Go.Proofs.Ytkmmmlbppobifaa.P15r
set_option linter.unusedVariables false
set_option linter.unusedSimpArgs false
def toS (t : Tok) : S24 := ⟨t.kind, t.n, t.s, t.at_, t.end_⟩
theorem ends_last {l a : List (Int × Tok)} {x : Int × Tok} (h : Ends l a x) : lastC l = x.1 := by rw [h.eq, lastC_snoc]
theorem all_ref (s : ByteArray) (hs : s.size ≤ 2000) : ∀ (f i : Nat) (o : List S24), i ≤ s.size → s.size + 2 ≤ f + i → o.length ≤ i →
  Ev (fun k => binderyref15_All.l0 k s o (i : Int)) (o ++ (oksL (toksFrom s f i)).map toS, lastC (toksFrom s f i))
 | 0, i, o, h1, h2, _ => by omega
 | f + 1, i, o, h1, h2, h3 => by
  refine evS 1 ?_ (fun k _ => by rw [binderyref15_All.l0])
  refine Ev.bind (next_ref s hs i) ?_
  rw [toksFrom]
  have hge := skipN_ge s (i : Int)
  rw [clampN_nat s i h1] at hge
  have hok := nextF_ok s (i : Int)
  generalize nextF s (i : Int) = x at *
  obtain ⟨c, k, n, st, a, e⟩ := x
  dsimp only at hok
  have tC : (toN (c, ⟨k, n, st, a, e⟩)).2.2.2.2.2 = c := rfl
  have tK : (toN (c, ⟨k, n, st, a, e⟩)).1 = k := rfl
  by_cases h0 : c = 0
  ·subst h0
   obtain ⟨_, _, o3, _⟩ := hok rfl
   by_cases hk : k = 0
   ·rw [if_neg (show ¬ ((0 : Int) = 0 ∧ k ≠ 0) from fun h => h.2 hk)]
    refine Ev.congr (fun q => ?_) (Ev.now _)
    rw [if_pos tC, if_pos (by omega), Option.bind_some, if_pos (tK.trans hk)]
    rfl
   ·obtain ⟨z, hz, hz1, hz2⟩ := o3 hk
    rw [if_pos (show ((0 : Int) = 0 ∧ k ≠ 0) from ⟨rfl, hk⟩)]
    show Ev _ (o ++ (oksL ((0, ⟨k, n, st, a, e⟩) :: toksFrom s f e.toNat)).map toS, _)
    subst hz
    rw [Int.toNat_natCast]
    have ih := all_ref s hs f z (o ++ [⟨k, n, st, a, (z : Int)⟩]) hz2 (by omega) (by rw [List.length_append, List.length_singleton]; omega)
    obtain ⟨l, x, he⟩ := toks_ends s f z hz2 (by omega)
    have e1 : lastC ((0, ⟨k, n, st, a, (z : Int)⟩) :: toksFrom s f z) = lastC (toksFrom s f z) := by
     rw [he.eq, ← List.cons_append, lastC_snoc, lastC_snoc]
    have e2 : oksL (((0 : Int), (⟨k, n, st, a, (z : Int)⟩ : Tok)) :: toksFrom s f z) = ⟨k, n, st, a, (z : Int)⟩ :: oksL (toksFrom s f z) := rfl
    rw [e2, List.map_cons]
    show Ev _ (_, lastC ((0, ⟨k, n, st, a, (z : Int)⟩) :: toksFrom s f z))
    rw [e1]
    rw [List.append_assoc] at ih
    refine Ev.congr (fun q => ?_) ih
    rw [if_pos tC, if_pos (by omega), Option.bind_some, if_neg (fun h => hk (tK.symm.trans h))]
    rfl
  ·rw [if_neg (show ¬ (c = 0 ∧ k ≠ 0) from fun h => h0 h.1)]
   have e2 : oksL [(c, (⟨k, n, st, a, e⟩ : Tok))] = [] := by simp [oksL, h0]
   rw [e2, List.map_nil, List.append_nil]
   refine Ev.congr (fun q => ?_) (Ev.now _)
   rw [if_neg (fun h => h0 (tC.symm.trans h))]
   rfl
theorem reps_tok {R : S24 → List Value → Prop} (hR : ∀ x cs, R x cs → cs = [.int .i64 x.f0, .int .i64 x.f1, .string x.f2, .int .i64 x.f3, .int .i64 x.f4]) : ∀ (l : List Tok) (cs : List Value), Reps R 5 (l.map toS) cs → cs = tokCells l
 | [], cs, h => by
  have := h.1
  simp at this
  rw [this]
  rfl
 | t :: l, cs, h => by
  have h0 := hR _ _ (h.2 0 (toS t) rfl)
  rw [Nat.zero_mul, List.drop_zero] at h0
  have h1 : cs.length = l.length * 5 + 5 := by have := h.1; rw [List.length_map, List.length_cons] at this; omega
  have h2 : Reps R 5 (l.map toS) (cs.drop 5) := by
   refine ⟨by rw [List.length_drop, h1, List.length_map]; omega, fun j p hp => ?_⟩
   have := h.2 (j + 1) p (by simpa using hp)
   rw [List.drop_drop]
   rwa [show (j + 1) * 5 = 5 + j * 5 by omega] at this
  have h3 := reps_tok hR l _ h2
  rw [← List.take_append_drop 5 cs, h0, h3]
  rfl
theorem own_kd {w : World} {B : Nat} {v : Value} {l : List Tok} (h : Kd.R k24 24 w B (fun _ => True) v (l.map toS)) : w.ownsRow B 24 5 v l.length (tokCells l) := by
 obtain ⟨_, inner, ho, hr⟩ := h
 rw [List.length_map] at ho
 rw [← reps_tok (fun x cs h => k24_openM h) l inner hr]
 exact ho
theorem rall_calls (s : ByteArray) (hs : s.size ≤ 2000) (w : World) :
  Calls Try.prog 14 #[.string s] w fun e W' => ∃ v, e = .returned (.tuple #[v, .int .i64 (lastC (toksN s))]) ∧ W'.ownsRow w.heap.size 24 5 v (oksL (toksN s)).length (tokCells (oksL (toksN s))) ∧ Below w.heap.size w W' := by
 obtain ⟨k, h⟩ := (all_ref s hs (s.size + 2) 0 [] (Nat.zero_le _) (by omega) (Nat.le_refl _)).rounds
 refine (binderyref15_All.calls k s _ _ w h).mono ?_
 rintro e W' ⟨v, h1, h2, h3⟩
 rw [List.nil_append] at h2
 exact ⟨v, h1, own_kd h2, h3⟩
end Go.Proofs.Ytkmmmlbppobifaa.Hand
