/- Slices of structs that came in: opened at every element. -/
import Derived.Test.YtcphjcggnblnkaaHand08a
import Derived.Deep.SlicePairs
import Derived.Deep.Slices
import Derived.Deep.Fields
import Derived.ChangeSame
import Derived.ChangeArms
namespace Go.Proofs.Ytcphjcggnblnkaa.Hand
open Go.ChangeShapes Go.WideShapes Go.ChangeAt Go.RowKit Go.Deep
set_option linter.unusedVariables false
section
variable {H : Type} {enc : TypeId × Value → H} {P : Program} {W : World} {base : Nat} {held : Bool}
/-- The cells of one element, field by field. -/
theorem elem_fields {e : TypeId} {fs : Array Field} {n : Nat} {a : Addr} {y : DataW H × List MemPlace} {cs : List Value} (he : P.underlying e = some (.struct fs)) (hone : oneCellFields P fs = true) (hc : W.cells? base a (P.cellsOf e) = some cs) (ht : DataW.trod enc P W base (fun _ => true) held n e cs = some y)
    (j : Nat) (f : Field) (hj : fs[j]? = some f) (hjc : j < P.cellsOf e) : ∃ (v : Value) (m : Nat) (z : DataW H × List MemPlace), W.cell? (a.add j) = some v ∧ DataW.trod enc P W base (fun _ => true) held m f.type [v] = some z := by
  obtain ⟨_, hl, hat⟩ := World.cells?_some hc
  obtain ⟨xs, m, _, _, hcl, hxl, hf⟩ := DataW.trod_struct he ht
  obtain ⟨ho, hk⟩ := hone_of hone j f hj
  have h1 := hf j f hj
  have hjl : j < fs.size := (Array.getElem?_eq_some_iff.1 hj).1
  rw [ho, hk, List.drop_eq_getElem_cons (by omega), List.take_succ_cons, List.take_zero, List.getElem?_eq_getElem (by omega)] at h1
  exact ⟨cs[j], m, _, (hat j hjc).trans (List.getElem?_eq_getElem (by omega)), h1⟩
theorem open_asks {t e : TypeId} {f0 f1 : Field} {fuel len cap : Nat} {A : Option Addr} {x : DataW H × List MemPlace} (ht : P.underlying t = some (.slice e)) (he : P.underlying e = some (.struct #[f0, f1])) (hone : oneCellFields P #[f0, f1] = true) (hC : P.cellsOf e = 2)
    (u0 : P.underlying f0.type = some (.int .u8)) (u1 : P.underlying f1.type = some (.int .i64)) (h : DataW.trod enc P W base (fun _ => true) held fuel t [.slice A len cap] = some x) : ∃ zs, Asks W A len zs := by
  rcases open_slice ht h with ⟨h0, _⟩ | ⟨a, l, c, m, n, D, Pl, hcs, _, hl, _, hm, _, hi⟩
  · injection h0 with h0 _
    injection h0 with h1 h2 h3
    subst h1 h2 h3
    exact ⟨[], rfl, fun i hi => absurd hi (Nat.not_lt_zero _)⟩
  · injection hcs with h0 _
    injection h0 with h1 h2 h3
    subst h1 h2 h3
    simp only [if_true] at hm
    have key : ∀ i, i < len → ∃ z : Int × Int, W.cell? (a.add (i * 2)) = some (.int .u8 z.1) ∧ W.cell? ⟨(a.add (i * 2)).block, (a.add (i * 2)).off + 1, none⟩ = some (.int .i64 z.2) ∧ (Lit.int .u8 z.1).wf = true ∧ (Lit.int .i64 z.2).wf = true := fun i hil => by
      obtain ⟨cs', h1, h2⟩ := hi i (by omega)
      have hc := hC
      rw [hC] at h1
      obtain ⟨v0, m0, z0, c0, t0⟩ := elem_fields he hone (by rw [hC]; exact h1) h2 0 f0 rfl (by omega)
      obtain ⟨v1, m1, z1, c1, t1⟩ := elem_fields he hone (by rw [hC]; exact h1) h2 1 f1 rfl (by omega)
      obtain ⟨n0, e0, _, w0⟩ := DataW.trod_int u0 t0
      obtain ⟨n1, e1, _, w1⟩ := DataW.trod_int u1 t1
      injection e0 with e0 _
      injection e1 with e1 _
      subst e0 e1
      refine ⟨(n0, n1), ?_, ?_, w0, w1⟩
      · have := c0; rwa [show (a.add (i * 2)).add 0 = a.add (i * 2) by unfold Addr.add; simp] at this
      · exact c1
    obtain ⟨f, hf⟩ : ∃ f : Nat → Int × Int, ∀ i, i < len → W.cell? (a.add (i * 2)) = some (.int .u8 (f i).1) ∧ W.cell? ⟨(a.add (i * 2)).block, (a.add (i * 2)).off + 1, none⟩ = some (.int .i64 (f i).2) ∧ (Lit.int .u8 (f i).1).wf = true ∧ (Lit.int .i64 (f i).2).wf = true :=
      ⟨fun i => if h : i < len then (key i h).choose else (0, 0), fun i h => by simp only [dif_pos h]; exact (key i h).choose_spec⟩
    refine ⟨(List.range len).map f, by simp, fun i hi => ⟨a, rfl, ?_⟩⟩
    have e : ((List.range len).map f).getD i (0, 0) = f i := by simp [List.getD_eq_getElem?_getD, hi]
    rw [e]
    exact hf i hi
end
end Go.Proofs.Ytcphjcggnblnkaa.Hand
