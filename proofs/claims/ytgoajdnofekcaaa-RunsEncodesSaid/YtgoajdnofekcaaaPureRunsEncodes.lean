/- runs.Encode tells any bytes (at most 5000) as the document does, and the page's examples come out. -/
import Derived.Test.YtgoajdnofekcaaaP07x2
import Derived.Test.YtgoajdnofekcaaaLem07e
namespace Go.Proofs.Ytgoajdnofekcaaa.Pure
open Go.RowKit Go.Proofs.Ytgoajdnofekcaaa.P07 Go.Proofs.YtgoajdnofekcaaaW.PrintWords Go.Proofs.YtgoajdnofekcaaaW.PrintLast Go.Proofs.Ytgoajdnofekcaaa.Hand Go.Proofs.Ytgoajdnofekcaaa.Num Go.Proofs.Ytgoajdnofekcaaa.Lem07

theorem RunsEncodes : binderylaw07_RunsEncodes.Pure := by
  intro s hs
  obtain ⟨K2, h2⟩ := parts_ev
  unfold binderylaw07_RunsEncodes.f
  by_cases h0 : (s.size : Int) > 5000
  · exact ⟨K2, by rw [if_pos h0, h2 _ (by omega)]; rfl⟩
  · obtain ⟨E, h⟩ := enc_all s (by omega) s.size 0 0 [] (by omega) (by omega) (by omega) (by simp; omega)
    obtain ⟨K1, h1⟩ := h.go
    obtain ⟨K3, h3⟩ := h.ref0 rfl
    dsimp only at h1 h3
    refine ⟨K1 + K2 + K3, ?_⟩
    have e1 : runs_Encode.f (K1 + K2 + K3) s = some (strOfNums ([] ++ E)) := by unfold runs_Encode.f; rw [h1 _ (by omega)]; rfl
    have e3 : binderyref07_Encode.f (K1 + K2 + K3) s = some (strOfNums ([] ++ E)) := h3 _ (by omega)
    rw [if_neg h0, e1, e3, h2 _ (by omega)]
    simp

end Go.Proofs.Ytgoajdnofekcaaa.Pure
