/- adler.More and adler.Join tell what the document says of any numbers and any text of at most 20000 bytes, and the page's examples come out. -/
import Derived.Test.YtgoajdnofekcaaaP05x3
import Derived.Test.YtgoajdnofekcaaaLem05
namespace Go.Proofs.Ytgoajdnofekcaaa.Pure
open Go.RowKit Go.Proofs.Ytgoajdnofekcaaa.P05 Go.Proofs.YtgoajdnofekcaaaW.PrintWords Go.Proofs.YtgoajdnofekcaaaW.PrintLast Go.Proofs.Ytgoajdnofekcaaa.Hand Go.Proofs.Ytgoajdnofekcaaa.Num Go.Proofs.Ytgoajdnofekcaaa.Lem05

theorem AdlerMore : binderylaw05_AdlerMore.Pure := by
  intro x y n s hx hy hn hs
  obtain ⟨x0, x1⟩ := wf64 hx
  obtain ⟨y0, y1⟩ := wf64 hy
  obtain ⟨n0, n1⟩ := wf64 hn
  obtain ⟨K1, h1⟩ := refMore_ev x s x0 x1 hs
  obtain ⟨K2, h2⟩ := sums_ev
  obtain ⟨K3, h3⟩ := joinF_ev x y n x1 y1 n1
  dsimp only at *
  refine ⟨K1 + K2 + K3, ?_⟩
  unfold binderylaw05_AdlerMore.f
  rw [h2 _ (by omega), h1 _ (by omega), h3 _ (by omega), moreF x s x0 x1 hs, refJoinF x y n x1 y1 n1]
  simp

end Go.Proofs.Ytgoajdnofekcaaa.Pure
