/- Deflated bytes (at most 2000, that tell at most 20000) are told in just as much room as they need, and in more, and are too many for less; conditions: none beyond the statement's own. -/
import Derived.Test.YtfoicjlkbkjfjaaPureInflateCut
namespace Go.Proofs.Ytfoicjlkbkjfjaa.Pure
open Go.RowKit Go.Proofs.Ytfoicjlkbkjfjaa.P10c Go.Proofs.YtfoicjlkbkjfjaaW.PrintWords Go.Proofs.YtfoicjlkbkjfjaaW.PrintLast Go.Proofs.Ytfoicjlkbkjfjaa.Hand Go.Proofs.Ytfoicjlkbkjfjaa.Num Go.Proofs.Ytfoicjlkbkjfjaa.Bits
theorem InflateRoom : binderylaw10_InflateRoom.Pure := by
  intro s less more hs hl hm
  have l0 : 0 ≤ less ∧ less ≤ 65535 := by simpa [Lit.wf, IntKind.min, IntKind.max, IntKind.bits, IntKind.signed] using hl
  have m0 : 0 ≤ more ∧ more ≤ 65535 := by simpa [Lit.wf, IntKind.min, IntKind.max, IntKind.bits, IntKind.signed] using hm
  have hbl := blocks_f
  refine ⟨1, ?_⟩
  unfold binderylaw10_InflateRoom.f
  by_cases h0 : (s.size : Int) > 2000
  · rw [if_pos h0, hbl]; rfl
  rw [if_neg h0, infl_f s 20000 (by omega) (by decide)]
  simp only [Option.bind_some]
  rcases inflF_cases s 20000 (by decide) with ⟨e, he, _, hr⟩ | ⟨p, o, hi, hr, hp1, hp2, ho⟩
  · rw [hr]
    dsimp only
    rw [if_neg he, hbl]; rfl
  · rw [hr]
    dsimp only
    have hsz : (strOfNums o).size = o.length := strOfNums_size o
    have e1 : wrap64 (((strOfNums o).size : Int) + wrap64 more) = (o.length : Int) + more := by rw [hsz, w64 (x := more) (by omega) (by omega), w64 (by omega) (by omega)]
    rw [if_pos rfl, e1, infl_f _ _ (by omega) (by omega), inflF_room _ (by decide) hi (by omega), if_pos (by omega)]
    simp only [Option.bind_some, if_true]
    rw [binderylaw10_InflateRoom.j0, if_neg (by decide)]
    by_cases hz : o.length = 0
    · obtain rfl : o = [] := List.eq_nil_of_length_eq_zero hz
      rw [if_pos ((toList_bytes _).2 rfl), hbl]; rfl
    · have hne : ¬ (strOfNums o).toList = ([] : List UInt8) := by
        intro h
        have h2 := (toList_bytes _).1 h
        rw [hsz] at h2
        exact hz h2
      have hlm : Int.tmod (wrap64 less) ((strOfNums o).size : Int) = ((less.toNat % o.length : Nat) : Int) := by
        rw [hsz, w64 (by omega) (by omega), tm _ l0.1, Int.natCast_emod, Int.toNat_of_nonneg l0.1]
      have hll : less.toNat % o.length < o.length := Nat.mod_lt _ (by omega)
      rw [if_neg hne, if_neg (by omega), hlm, infl_f _ _ (by omega) (by omega), inflF_room _ (by decide) hi (by omega), if_neg (by omega)]
      simp only [Option.bind_some]
      rw [if_pos ((toList_bytes _).2 rfl)]
      simp only [if_true]
      rw [hbl]; rfl
end Go.Proofs.Ytfoicjlkbkjfjaa.Pure
