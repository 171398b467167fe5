/- Which bytes any text of digits is, or why none: as the document says. -/
import Derived.Test.YthghjdajohcedaaLem06
namespace Go.Proofs.Ythghjdajohcedaa.Pure
open Go.RowKit Go.Proofs.Ythghjdajohcedaa.P06 Go.Proofs.YthghjdajohcedaaW.PrintWords Go.Proofs.YthghjdajohcedaaW.PrintLast Go.Proofs.Ythghjdajohcedaa.Hand Go.Proofs.Ythghjdajohcedaa.Num Go.Proofs.Ythghjdajohcedaa.Lem06
theorem HexaDecodes : binderylaw06_HexaDecodes.Pure := by
  intro s hs
  unfold binderylaw06_HexaDecodes.f
  by_cases h : (s.size : Int) > 5000
  · exact ⟨0, by rw [if_pos h, digits_true]; rfl⟩
  · obtain ⟨K, e⟩ := dec_ev s (by omega)
    have e := e K (Nat.le_refl _)
    dsimp only at e
    exact ⟨K, by rw [if_neg h, dec_f s (by omega), Option.bind_some, e, Option.bind_some, if_pos rfl, if_pos rfl, digits_true]; rfl⟩
end Go.Proofs.Ythghjdajohcedaa.Pure
