/- Of which kind any byte is, which number it is as a digit, and which digit any number has: as the document says. -/
import Derived.Test.YthghjdajohcedaaP01kx
import Derived.Test.YthghjdajohcedaaNum
namespace Go.Proofs.Ythghjdajohcedaa.Pure
open Go.RowKit Go.Proofs.Ythghjdajohcedaa.P01k Go.Proofs.YthghjdajohcedaaW.PrintWords Go.Proofs.YthghjdajohcedaaW.PrintLast Go.Proofs.Ythghjdajohcedaa.Hand Go.Proofs.Ythghjdajohcedaa.Num
set_option linter.unusedVariables false

/-- All 256 bytes, one by one. -/
theorem bytes_all : ∀ c : Fin 256, (match octet_Kind.f 20 ((c.val : Nat) : Int), binderyref01_Kind.f 20 ((c.val : Nat) : Int), octet_Hex.f 20 ((c.val : Nat) : Int), binderyref01_Hex.f 20 ((c.val : Nat) : Int) with
  | some a, some b, some d, some e => a == b && d == e
  | _, _, _, _ => false) = true := by decide +kernel
theorem digits_all : ∀ n : Fin 16, (match octet_Digit.f 20 ((n.val : Nat) : Int), binderyref01_Digit.f ((n.val : Nat) : Int) with
  | some a, some b => a == b
  | _, _ => false) = true := by decide +kernel
theorem digit_eq (n : Int) : ∃ d, octet_Digit.f 20 n = some d ∧ binderyref01_Digit.f n = some d := by
  by_cases h : 0 ≤ n ∧ n ≤ 15
  · obtain ⟨m, rfl⟩ := Int.eq_ofNat_of_zero_le h.1
    have := digits_all ⟨m, by omega⟩
    dsimp only at this
    cases h1 : octet_Digit.f 20 (m : Int) with
    | none => rw [h1] at this; cases this
    | some a =>
      cases h2 : binderyref01_Digit.f (m : Int) with
      | none => rw [h1, h2] at this; cases this
      | some b =>
        rw [h1, h2] at this
        exact ⟨a, rfl, by rw [beq_iff_eq.1 this]⟩
  · refine ⟨0, ?_, ?_⟩
    · unfold octet_Digit.f
      by_cases h0 : n < 0
      · rw [if_pos h0]; rfl
      · rw [if_neg h0, decide_eq_true (by omega)]; rfl
    · unfold binderyref01_Digit.f
      by_cases h0 : n < 0
      · rw [if_pos h0]
      · rw [if_neg h0, if_pos (by omega)]
theorem OctetKinds : binderylaw01_OctetKinds.Pure := by
  intro c n hc hn
  have hc2 : 0 ≤ c ∧ c ≤ 255 := by
    simp [Lit.wf, IntKind.min, IntKind.max, IntKind.bits, IntKind.signed] at hc
    omega
  obtain ⟨m, rfl⟩ := Int.eq_ofNat_of_zero_le hc2.1
  have hb := bytes_all ⟨m, by omega⟩
  dsimp only at hb
  obtain ⟨d, hd1, hd2⟩ := digit_eq n
  refine ⟨20, ?_⟩
  unfold binderylaw01_OctetKinds.f
  cases h1 : octet_Kind.f 20 (m : Int) with
  | none => rw [h1] at hb; cases hb
  | some a =>
    cases h2 : binderyref01_Kind.f 20 (m : Int) with
    | none => rw [h1, h2] at hb; cases hb
    | some b =>
      cases h3 : octet_Hex.f 20 (m : Int) with
      | none => rw [h1, h2, h3] at hb; cases hb
      | some e =>
        cases h4 : binderyref01_Hex.f 20 (m : Int) with
        | none => rw [h1, h2, h3, h4] at hb; cases hb
        | some f =>
          rw [h1, h2, h3, h4] at hb
          simp only [Bool.and_eq_true, beq_iff_eq] at hb
          obtain ⟨rfl, rfl⟩ := hb
          rw [Option.bind_some, Option.bind_some, if_pos rfl, Option.bind_some, Option.bind_some, if_pos rfl, hd1, Option.bind_some, hd2, Option.bind_some, if_pos rfl]
          rfl
end Go.Proofs.Ythghjdajohcedaa.Pure
