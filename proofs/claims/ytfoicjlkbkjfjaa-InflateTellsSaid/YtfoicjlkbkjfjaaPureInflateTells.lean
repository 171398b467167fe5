/- Which bytes any deflated bytes (at most 400, that tell at most 5000) are, how many were read, or why none, is as the document says; conditions: none beyond the statement's own. -/
import Derived.Test.YtfoicjlkbkjfjaaP10tx1
namespace Go.Proofs.Ytfoicjlkbkjfjaa.Pure
open Go.RowKit Go.Proofs.Ytfoicjlkbkjfjaa.P10t Go.Proofs.YtfoicjlkbkjfjaaW.PrintWords Go.Proofs.YtfoicjlkbkjfjaaW.PrintLast Go.Proofs.Ytfoicjlkbkjfjaa.Hand Go.Proofs.Ytfoicjlkbkjfjaa.Num Go.Proofs.Ytfoicjlkbkjfjaa.Bits
theorem infl_f (s : ByteArray) (m : Int) (hs : s.size ≤ 1000000) (hm : m ≤ 10000000) : inflate_Inflate.f s m = some (inflF s m) := by
 unfold inflate_Inflate.f
 rw [if_pos ⟨hs, hm⟩]
theorem rinfl_f (s : ByteArray) (m : Int) (hs : s.size ≤ 1000000) (hm : m ≤ 10000000) : binderyref10_Inflate.f s m = some (inflF s m) := by
 unfold binderyref10_Inflate.f
 rw [if_pos ⟨hs, hm⟩]
theorem blocks_f : binderylaw10_blocks.f = some true := by
 unfold binderylaw10_blocks.f
 rw [infl_f _ _ (by decide) (by decide), infl_f _ _ (by decide) (by decide), infl_f _ _ (by decide) (by decide), infl_f _ _ (by decide) (by decide), infl_f _ _ (by decide) (by decide), blk1, blk2, blk3, blk4, blk5]
 simp only [Option.bind_some, ByteArray.toList_eq]
 rfl
theorem InflateTells : binderylaw10_InflateTells.Pure := by
 intro s m hs hl
 have hbl := blocks_f
 refine ⟨1, ?_⟩
 unfold binderylaw10_InflateTells.f
 by_cases h0 : (s.size : Int) > 400
 ·rw [if_pos h0, binderylaw10_InflateTells.j0, if_pos rfl, hbl]; rfl
 rw [if_neg h0, binderylaw10_InflateTells.j0]
 by_cases h1 : m > 5000
 ·rw [if_pos (decide_eq_true h1), hbl]; rfl
 rw [if_neg (by rw [decide_eq_false h1]; decide), infl_f s m (by omega) (by omega), rinfl_f s m (by omega) (by omega)]
 simp only [Option.bind_some, if_true]
 rw [hbl]; rfl
end Go.Proofs.Ytfoicjlkbkjfjaa.Pure
