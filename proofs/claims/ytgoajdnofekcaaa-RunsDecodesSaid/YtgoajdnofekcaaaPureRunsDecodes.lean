/- runs.Decode tells what the document says of any bytes (at most 2000), with any room, and the page's examples come out. -/
import Derived.Test.YtgoajdnofekcaaaP07x2
import Derived.Test.YtgoajdnofekcaaaLem07
namespace Go.Proofs.Ytgoajdnofekcaaa.Pure
open Go.RowKit Go.Proofs.Ytgoajdnofekcaaa.P07 Go.Proofs.YtgoajdnofekcaaaW.PrintWords Go.Proofs.YtgoajdnofekcaaaW.PrintLast Go.Proofs.Ytgoajdnofekcaaa.Hand Go.Proofs.Ytgoajdnofekcaaa.Num Go.Proofs.Ytgoajdnofekcaaa.Lem07

theorem RunsDecodes : binderylaw07_RunsDecodes.Pure := by
  intro s room hs hr
  obtain ⟨K2, h2⟩ := parts_ev
  unfold binderylaw07_RunsDecodes.f
  by_cases h0 : (s.size : Int) > 2000
  · exact ⟨K2, by rw [if_pos h0, h2 _ (by omega)]; rfl⟩
  · have e : ∃ r, Ev (fun k => runs_Decode.f k s room) r := by
      unfold runs_Decode.f
      by_cases h1 : room < 0
      · exact ⟨_, 0, fun k _ => by dsimp only; rw [if_pos h1]⟩
      · obtain ⟨r, K, h⟩ := decL_total room s.size s [] (by omega) (by omega) (by simp; omega)
        exact ⟨r, K, fun k hk => by dsimp only; rw [if_neg h1]; exact h k hk⟩
    obtain ⟨r, K1, h1⟩ := e
    dsimp only at h1
    refine ⟨K1 + K2, ?_⟩
    have e2 : binderyref07_Decode.f (K1 + K2) s room = some r := h1 _ (by omega)
    rw [if_neg h0, h1 _ (by omega), e2, h2 _ (by omega)]
    simp

end Go.Proofs.Ytgoajdnofekcaaa.Pure
