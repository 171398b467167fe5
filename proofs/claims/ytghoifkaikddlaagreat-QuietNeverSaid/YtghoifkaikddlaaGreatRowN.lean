/- Slices of strings that came in, opened. -/
import Derived.Test.YtghoifkaikddlaaGreatHand14d
import Derived.SliceStrings
import Derived.ChangeSame
import Derived.ChangeArms
namespace Go.Proofs.YtghoifkaikddlaaGreat.Hand
open Go.ChangeShapes Go.WideShapes Go.ChangeAt Go.RowKit
set_option linter.unusedVariables false
structure Names (w : World) (A : Option Addr) (len cap : Nat) (l : List ByteArray) : Prop where
 hn : len = l.length
 hc : len ≤ cap
 hm : cap ≤ maxLen
 st : Strs w A l
 so : 0 < cap → ∃ ad, A = some ad
section
variable {H : Type} {enc : TypeId × Value → H} {P : Program} {W : World} {base : Nat} {held : Bool}
theorem open_names {t e : TypeId} {fuel len cap : Nat} {A : Option Addr} {x : DataW H × List MemPlace} (ht : P.underlying t = some (.slice e)) (he : P.underlying e = some .string) (hC : P.cellsOf e = 1)
  (h : DataW.trod enc P W base (fun _ => true) held fuel t [.slice A len cap] = some x) : ∃ zs, Names W A len cap zs := by
 rcases open_strings ht he hC h with ⟨h0, _⟩ | ⟨a, l, c, ss, hcs, _, hl, hm, hs, _, hc, _⟩
 ·injection h0 with h0 _
  injection h0 with h1 h2 h3
  subst h1 h2 h3
  exact ⟨[], rfl, Nat.le_refl _, Nat.zero_le _, fun i hi => absurd hi (Nat.not_lt_zero _), fun h => absurd h (Nat.not_lt_zero _)⟩
 ·injection hcs with h0 _
  injection h0 with h1 h2 h3
  subst h1 h2 h3
  simp only [if_true] at hs
  refine ⟨ss.take len, by rw [List.length_take]; omega, hl, hm, fun i hi => ⟨a, rfl, ?_⟩, fun _ => ⟨a, rfl⟩⟩
  rw [List.length_take] at hi
  have := hc i (by omega)
  rw [this, List.getD_eq_getElem?_getD, List.getD_eq_getElem?_getD, List.getElem?_take, if_pos (by omega)]
  rfl
end
end Go.Proofs.YtghoifkaikddlaaGreat.Hand
