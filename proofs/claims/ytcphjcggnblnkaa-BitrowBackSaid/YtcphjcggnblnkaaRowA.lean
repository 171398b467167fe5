/- A slice of acts that came in: opened at every element. -/
import Derived.Test.YtcphjcggnblnkaaHand08b
namespace Go.Proofs.Ytcphjcggnblnkaa.Hand
open Go.ChangeShapes Go.WideShapes Go.ChangeAt Go.RowKit Go.Deep
set_option linter.unusedVariables false
section
variable {H : Type} {enc : TypeId × Value → H} {P : Program} {W : World} {base : Nat} {held : Bool}
theorem open_acts {t e : TypeId} {f0 f1 f2 : Field} {fuel len cap : Nat} {A : Option Addr} {x : DataW H × List MemPlace} (ht : P.underlying t = some (.slice e)) (he : P.underlying e = some (.struct #[f0, f1, f2])) (hone : oneCellFields P #[f0, f1, f2] = true) (hC : P.cellsOf e = 3)
    (u0 : P.underlying f0.type = some (.int .i64)) (u1 : P.underlying f1.type = some (.int .i64)) (u2 : P.underlying f2.type = some .bool) (h : DataW.trod enc P W base (fun _ => true) held fuel t [.slice A len cap] = some x) : ∃ zs, Acts W A len zs := by
  rcases open_slice ht h with ⟨h0, _⟩ | ⟨a, l, c, m, n, D, Pl, hcs, _, hl, _, hm, _, hi⟩
  · injection h0 with h0 _
    injection h0 with h1 h2 h3
    subst h1 h2 h3
    exact ⟨[], rfl, fun i hi => absurd hi (Nat.not_lt_zero _)⟩
  · injection hcs with h0 _
    injection h0 with h1 h2 h3
    subst h1 h2 h3
    simp only [if_true] at hm
    have key : ∀ i, i < len → ∃ z : Int × Int × Bool, W.cell? (a.add (i * 3)) = some (.int .i64 z.1) ∧ W.cell? ⟨(a.add (i * 3)).block, (a.add (i * 3)).off + 1, none⟩ = some (.int .i64 z.2.1) ∧ W.cell? ⟨(a.add (i * 3)).block, (a.add (i * 3)).off + 2, none⟩ = some (.bool z.2.2) ∧ (Lit.int .i64 z.1).wf = true ∧ (Lit.int .i64 z.2.1).wf = true := fun i hil => by
      obtain ⟨cs', h1, h2⟩ := hi i (by omega)
      rw [hC] at h1
      obtain ⟨v0, m0, z0, c0, t0⟩ := elem_fields he hone (by rw [hC]; exact h1) h2 0 f0 rfl (by omega)
      obtain ⟨v1, m1, z1, c1, t1⟩ := elem_fields he hone (by rw [hC]; exact h1) h2 1 f1 rfl (by omega)
      obtain ⟨v2, m2, z2, c2, t2⟩ := elem_fields he hone (by rw [hC]; exact h1) h2 2 f2 rfl (by omega)
      obtain ⟨n0, e0, _, w0⟩ := DataW.trod_int u0 t0
      obtain ⟨n1, e1, _, w1⟩ := DataW.trod_int u1 t1
      obtain ⟨b2, e2, _⟩ := DataW.trod_bool u2 t2
      injection e0 with e0 _
      injection e1 with e1 _
      injection e2 with e2 _
      subst e0 e1 e2
      refine ⟨(n0, n1, b2), ?_, c1, c2, w0, w1⟩
      have := c0; rwa [show (a.add (i * 3)).add 0 = a.add (i * 3) by unfold Addr.add; simp] at this
    obtain ⟨f, hf⟩ : ∃ f : Nat → Int × Int × Bool, ∀ i, i < len → W.cell? (a.add (i * 3)) = some (.int .i64 (f i).1) ∧ W.cell? ⟨(a.add (i * 3)).block, (a.add (i * 3)).off + 1, none⟩ = some (.int .i64 (f i).2.1) ∧ W.cell? ⟨(a.add (i * 3)).block, (a.add (i * 3)).off + 2, none⟩ = some (.bool (f i).2.2) ∧ (Lit.int .i64 (f i).1).wf = true ∧ (Lit.int .i64 (f i).2.1).wf = true :=
      ⟨fun i => if h : i < len then (key i h).choose else (0, 0, false), fun i h => by simp only [dif_pos h]; exact (key i h).choose_spec⟩
    refine ⟨(List.range len).map f, by simp, fun i hi => ⟨a, rfl, ?_⟩⟩
    have e : ((List.range len).map f).getD i (0, 0, false) = f i := by simp [List.getD_eq_getElem?_getD, hi]
    rw [e]
    exact hf i hi
end
end Go.Proofs.Ytcphjcggnblnkaa.Hand
