/- adler.Sum tells the document's sum of every text of at most 20000 bytes, and the page's examples come out. -/
import Derived.Test.YtgoajdnofekcaaaLem05
namespace Go.Proofs.Ytgoajdnofekcaaa.Pure
open Go.RowKit Go.Proofs.Ytgoajdnofekcaaa.P05 Go.Proofs.YtgoajdnofekcaaaW.PrintWords Go.Proofs.YtgoajdnofekcaaaW.PrintLast Go.Proofs.Ytgoajdnofekcaaa.Hand Go.Proofs.Ytgoajdnofekcaaa.Num Go.Proofs.Ytgoajdnofekcaaa.Lem05

theorem AdlerSums : binderylaw05_AdlerSums.Pure := by
  intro s hs
  obtain ⟨K1, h1⟩ := refSum_ev s hs
  obtain ⟨K2, h2⟩ := sums_ev
  dsimp only at *
  refine ⟨K1 + K2, ?_⟩
  unfold binderylaw05_AdlerSums.f adler_Sum.f
  rw [h2 _ (by omega), h1 _ (by omega), if_pos hs]
  simp

end Go.Proofs.Ytgoajdnofekcaaa.Pure
