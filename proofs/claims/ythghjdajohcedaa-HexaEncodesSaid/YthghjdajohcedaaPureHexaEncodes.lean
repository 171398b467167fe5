/- Which digits any bytes are: as the document says. -/
import Derived.Test.YthghjdajohcedaaLem06
namespace Go.Proofs.Ythghjdajohcedaa.Pure
open Go.RowKit Go.Proofs.Ythghjdajohcedaa.P06 Go.Proofs.YthghjdajohcedaaW.PrintWords Go.Proofs.YthghjdajohcedaaW.PrintLast Go.Proofs.Ythghjdajohcedaa.Hand Go.Proofs.Ythghjdajohcedaa.Num Go.Proofs.Ythghjdajohcedaa.Lem06
theorem HexaEncodes : binderylaw06_HexaEncodes.Pure := by
  intro s hs
  unfold binderylaw06_HexaEncodes.f
  by_cases h : (s.size : Int) > 5000
  · exact ⟨0, by rw [if_pos h, digits_true]; rfl⟩
  · obtain ⟨K, e⟩ := enc_ev s (by omega)
    have e := e K (Nat.le_refl _)
    dsimp only at e
    exact ⟨K, by rw [if_neg h, enc_f s (by omega), Option.bind_some, e, Option.bind_some, if_pos rfl, digits_true]; rfl⟩
end Go.Proofs.Ythghjdajohcedaa.Pure
