/- predict.Decode tells what the document says of any bytes (at most 5000), and the page's examples come out. -/
import Derived.Test.YtgoajdnofekcaaaP13x2
import Derived.Test.YtgoajdnofekcaaaLem13
namespace Go.Proofs.Ytgoajdnofekcaaa.Pure
open Go.RowKit Go.Proofs.Ytgoajdnofekcaaa.P13 Go.Proofs.YtgoajdnofekcaaaW.PrintWords Go.Proofs.YtgoajdnofekcaaaW.PrintLast Go.Proofs.Ytgoajdnofekcaaa.Hand Go.Proofs.Ytgoajdnofekcaaa.Num Go.Proofs.Ytgoajdnofekcaaa.Lem13

theorem PredictDecodes : binderylaw13_PredictDecodes.Pure := by
  intro s a hs ha
  obtain ⟨K2, h2⟩ := rows_ev
  unfold binderylaw13_PredictDecodes.f
  by_cases h0 : (s.size : Int) > 5000
  · exact ⟨K2, by rw [if_pos h0, h2 _ (by omega)]; rfl⟩
  · obtain ⟨r, ⟨K1, h1⟩, ⟨K3, h3⟩⟩ := dec_ev s a (by omega)
    dsimp only at h1 h3
    refine ⟨K1 + K2 + K3, ?_⟩
    rw [if_neg h0, h1 _ (by omega), h3 _ (by omega), h2 _ (by omega)]
    simp

end Go.Proofs.Ytgoajdnofekcaaa.Pure
