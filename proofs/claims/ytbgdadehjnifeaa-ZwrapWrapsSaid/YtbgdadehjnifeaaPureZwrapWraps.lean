/- Any bytes (at most 300) are wrapped just as the document says; conditions: none beyond the statement's own. -/
import Derived.Test.YtbgdadehjnifeaaP12vx1
import Derived.Test.YtbgdadehjnifeaaHand12r
namespace Go.Proofs.Ytbgdadehjnifeaa.Pure
open Go.RowKit Go.Proofs.Ytbgdadehjnifeaa.P12v Go.Proofs.YtbgdadehjnifeaaW.PrintWords Go.Proofs.YtbgdadehjnifeaaW.PrintLast Go.Proofs.Ytbgdadehjnifeaa.Hand Go.Proofs.Ytbgdadehjnifeaa.Num Go.Proofs.Ytbgdadehjnifeaa.Bits
theorem zwrap_f (s : ByteArray) (hs : s.size ≤ 100000) : zwrap_Wrap.f s = some (wrapF s) := by unfold zwrap_Wrap.f; rw [if_pos hs]
theorem zunwrap_f (s : ByteArray) (m : Int) (hs : s.size ≤ 1000000) (hm : m ≤ 10000000) : zwrap_Unwrap.f s m = some (unwrapF s m) := by unfold zwrap_Unwrap.f; rw [if_pos ⟨hs, hm⟩]
theorem rwrap_f (s : ByteArray) (hs : s.size ≤ 300) : binderyref12_Wrap.f s = some (wrapF s) := by unfold binderyref12_Wrap.f; rw [if_pos hs]
theorem wrapped_f : binderylaw12_wrapped.f = some true := by
 unfold binderylaw12_wrapped.f
 rw [zunwrap_f _ _ (by decide) (by decide), zunwrap_f _ _ (by decide) (by decide), zunwrap_f _ _ (by decide) (by decide), zunwrap_f _ _ (by decide) (by decide), zwrap_f _ (by decide), zw1, zw2, zw3, zw4, zw5]
 simp only [Option.bind_some, ByteArray.toList_eq]
 rfl
theorem ZwrapWraps : binderylaw12_ZwrapWraps.Pure := by
 intro s hs
 unfold binderylaw12_ZwrapWraps.f
 by_cases h0 : (s.size : Int) > 300
 ·rw [if_pos h0, wrapped_f]; rfl
 ·rw [if_neg h0, zwrap_f s (by omega), Option.bind_some, rwrap_f s (by omega), Option.bind_some, if_pos rfl, wrapped_f]; rfl
end Go.Proofs.Ytbgdadehjnifeaa.Pure
