/- predict.Encode tells what the document says of any rows (at most 5000 bytes), and the page's examples come out. -/
import Derived.Test.YtgoajdnofekcaaaP13x1
import Derived.Test.YtgoajdnofekcaaaLem13
namespace Go.Proofs.Ytgoajdnofekcaaa.Pure
open Go.RowKit Go.Proofs.Ytgoajdnofekcaaa.P13 Go.Proofs.YtgoajdnofekcaaaW.PrintWords Go.Proofs.YtgoajdnofekcaaaW.PrintLast Go.Proofs.Ytgoajdnofekcaaa.Hand Go.Proofs.Ytgoajdnofekcaaa.Num Go.Proofs.Ytgoajdnofekcaaa.Lem13

theorem PredictEncodes : binderylaw13_PredictEncodes.Pure := by
  intro s a hs ha
  obtain ⟨K2, h2⟩ := rows_ev
  unfold binderylaw13_PredictEncodes.f
  by_cases h0 : (s.size : Int) > 5000
  · exact ⟨K2, by rw [if_pos h0, h2 _ (by omega)]; rfl⟩
  · obtain ⟨r, hr, K1, h1⟩ := enc_ev s a (by omega)
    dsimp only at h1
    refine ⟨K1 + K2, ?_⟩
    rw [if_neg h0, h1 _ (by omega), hr, h2 _ (by omega)]
    simp

end Go.Proofs.Ytgoajdnofekcaaa.Pure
