/- Deflated bytes (at most 2000, that tell at most 20000), cut off anywhere ahead of where they end, are too short; with anything behind them they are the same; conditions: none beyond the statement's own. -/
import Derived.Test.YtfoicjlkbkjfjaaP10cx1
import Derived.Test.YtfoicjlkbkjfjaaLem10
namespace Go.Proofs.Ytfoicjlkbkjfjaa.Pure
open Go.RowKit Go.Proofs.Ytfoicjlkbkjfjaa.P10c Go.Proofs.YtfoicjlkbkjfjaaW.PrintWords Go.Proofs.YtfoicjlkbkjfjaaW.PrintLast Go.Proofs.Ytfoicjlkbkjfjaa.Hand Go.Proofs.Ytfoicjlkbkjfjaa.Num Go.Proofs.Ytfoicjlkbkjfjaa.Bits
theorem infl_f (s : ByteArray) (m : Int) (hs : s.size ≤ 1000000) (hm : m ≤ 10000000) : inflate_Inflate.f s m = some (inflF s m) := by
  unfold inflate_Inflate.f
  rw [if_pos ⟨hs, hm⟩]
theorem blocks_f : binderylaw10_blocks.f = some true := by
  unfold binderylaw10_blocks.f
  rw [infl_f _ _ (by decide) (by decide), infl_f _ _ (by decide) (by decide), infl_f _ _ (by decide) (by decide), infl_f _ _ (by decide) (by decide), infl_f _ _ (by decide) (by decide), blk1, blk2, blk3, blk4, blk5]
  simp only [Option.bind_some, ByteArray.toList_eq]
  rfl
theorem rdAt_pos {p : Nat} (h : 1 ≤ p) : 1 ≤ rdAt p := by unfold rdAt; omega
theorem rdAt_le {p n : Nat} (h : p ≤ 8 * n) : rdAt p ≤ n := by unfold rdAt; omega
theorem le_rdAt (p : Nat) : p ≤ 8 * rdAt p := by unfold rdAt; omega
theorem lt_rdAt {p c : Nat} (h : c < rdAt p) : 8 * c < p := by unfold rdAt at h; omega
theorem InflateCut : binderylaw10_InflateCut.Pure := by
  intro s more cut hs hm hc
  have c0 : 0 ≤ cut ∧ cut ≤ 65535 := by simpa [Lit.wf, IntKind.min, IntKind.max, IntKind.bits, IntKind.signed] using hc
  have hbl := blocks_f
  refine ⟨2, ?_⟩
  unfold binderylaw10_InflateCut.f
  by_cases h0 : (s.size : Int) > 2000
  · rw [if_pos h0, binderylaw10_InflateCut.j0, if_pos rfl, hbl]; rfl
  rw [if_neg h0, binderylaw10_InflateCut.j0]
  by_cases h1 : (more.size : Int) > 2000
  · rw [if_pos (by rw [decide_eq_true h1]), hbl]; rfl
  rw [if_neg (by rw [decide_eq_false h1]; decide), infl_f s 20000 (by omega) (by decide)]
  simp only [Option.bind_some]
  rcases inflF_cases s 20000 (by decide) with ⟨e, he, _, hr⟩ | ⟨p, o, hi, hr, hp1, hp2, ho⟩
  · rw [hr]
    dsimp only
    rw [if_neg he, if_pos ((toList_bytes _).2 rfl)]
    simp only [if_true]
    rw [hbl]; rfl
  · rw [hr]
    dsimp only
    have q1 := rdAt_pos hp1
    have q2 := rdAt_le hp2
    obtain ⟨n, hn⟩ : ∃ n, n = rdAt p := ⟨_, rfl⟩
    have hcm : Int.tmod (wrap64 cut) (n : Int) = ((cut.toNat % n : Nat) : Int) := by
      rw [w64 (by omega) (by omega), tm _ c0.1, Int.natCast_emod, Int.toNat_of_nonneg c0.1]
    have hcl : cut.toNat % n < n := Nat.mod_lt _ (by omega)
    rw [if_pos rfl, ← hn, if_neg (by omega), binderylaw10_InflateCut.j1, if_neg (by rw [decide_eq_false (by omega)]; decide), if_neg (by omega), hcm, if_pos (by omega), if_pos (by omega), Int.toNat_natCast, infl_f _ _ (by rw [ByteArray.size_extract]; omega) (by decide),
      inflF_short (by decide) hi (lt_rdAt (by omega)) (by omega)]
    simp only [Option.bind_some]
    rw [if_pos (by omega), if_pos (by omega), Int.toNat_natCast, if_pos (by rw [ByteArray.size_extract]; omega), infl_f _ _ (by rw [ByteArray.size_append, ByteArray.size_extract]; omega) (by decide), inflF_more more (by decide) hi (by rw [hn]; exact le_rdAt p) (by omega)]
    simp only [Option.bind_some]
    simp only [if_true]
    rw [if_pos (by rw [hn]), hbl]; rfl
end Go.Proofs.Ytfoicjlkbkjfjaa.Pure
