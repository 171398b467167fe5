/- runs.Encode as one plain function. -/
import Derived.Test.YtghoifkaikddlaaGreatLem07n
namespace Go.Proofs.YtghoifkaikddlaaGreat.Hand
open Go.RowKit Go.Proofs.YtghoifkaikddlaaGreatW.PrintWords Go.Proofs.YtghoifkaikddlaaGreatW.PrintLast Go.Proofs.YtghoifkaikddlaaGreatW.PrintMore Go.Proofs.YtghoifkaikddlaaGreat.Num Go.Proofs.YtghoifkaikddlaaGreat.P07a Go.Proofs.YtghoifkaikddlaaGreat.Lem07
set_option linter.unusedVariables false
set_option linter.unusedSimpArgs false
open Classical in
/-- What runs.Encode tells. -/
noncomputable def runsF (s : ByteArray) : ByteArray := if h : ∃ E, Enc s 0 0 [] E then strOfNums (Classical.choose h) else ⟨#[]⟩
theorem runsF_spec (s : ByteArray) (hs : s.size ≤ 60000) : ∃ E, Enc s 0 0 [] E ∧ runsF s = strOfNums E := by
  have h := enc_tot s hs
  exact ⟨Classical.choose h, Classical.choose_spec h, by unfold runsF; rw [dif_pos h]⟩
theorem runsF_ev (s : ByteArray) (hs : s.size ≤ 60000) : Ev (fun k => runs_Encode.f k s) (runsF s) := by
  obtain ⟨E, h, e⟩ := runsF_spec s hs
  obtain ⟨K, hK⟩ := h.go
  refine ⟨K, fun k hk => ?_⟩
  have := hK k hk
  dsimp only at this ⊢
  unfold runs_Encode.f
  rw [this, e]
  rfl
theorem runsF_eq {s r : ByteArray} (hs : s.size ≤ 60000) (h : Ev (fun k => runs_Encode.f k s) r) : runsF s = r := by
  obtain ⟨K1, h1⟩ := runsF_ev s hs
  obtain ⟨K2, h2⟩ := h
  have a := h1 (K1 + K2) (by omega)
  have b := h2 (K1 + K2) (by omega)
  dsimp only at a b
  rw [a] at b
  exact Option.some.inj b
theorem runsF_size (s : ByteArray) (hs : s.size ≤ 60000) : (runsF s).size ≤ 2 * s.size + 20 := by
  obtain ⟨E, h, e⟩ := runsF_spec s hs
  have hl := h.len
  rw [e, size_data, strOfNums_data, List.length_map]
  omega
theorem runsF_calls (s : ByteArray) (w : World) (hs : s.size ≤ 60000) : Calls Tryz.prog 51 #[.string s] w fun e w' => e = .returned (.string (runsF s)) ∧ Below w.heap.size w w' := by
  obtain ⟨k, h⟩ := (runsF_ev s hs).rounds
  exact runs_Encode.calls k s _ w h
end Go.Proofs.YtghoifkaikddlaaGreat.Hand
