/- Squeeze: Stored and Fixed in the print's own form; what any text's own are is told. -/
import Derived.Test.YtfoicjlkbkjfjaaHand11j
import Derived.Test.YtfoicjlkbkjfjaaHand11k
namespace Go.Proofs.Ytfoicjlkbkjfjaa.Hand
open Go.RowKit Go.Proofs.YtfoicjlkbkjfjaaW.PrintWords Go.Proofs.YtfoicjlkbkjfjaaW.PrintLast Go.Proofs.YtfoicjlkbkjfjaaW.PrintMore Go.Proofs.Ytfoicjlkbkjfjaa.Num Go.Proofs.Ytfoicjlkbkjfjaa.Bits
set_option linter.unusedVariables false
set_option linter.unusedSimpArgs false
def squeeze_Stored.f (a0 : ByteArray) : Option ByteArray := if a0.size ≤ 100000 then some (storeF a0) else none
theorem squeeze_Stored.calls (a0 : ByteArray) (r : ByteArray) (w : World) (h : squeeze_Stored.f a0 = some r) :
    Calls Try.prog 10 #[.string a0] w fun e w' => e = .returned (.string r) ∧ Below w.heap.size w w' := by
  unfold squeeze_Stored.f at h
  split at h
  · rename_i hs
    injection h with h
    subst h
    exact sstored_calls w a0 hs
  · cases h
def squeeze_Fixed.f (a0 : ByteArray) : Option ByteArray := if a0.size ≤ 100000 then some (fixF a0) else none
theorem squeeze_Fixed.calls (a0 : ByteArray) (r : ByteArray) (w : World) (h : squeeze_Fixed.f a0 = some r) :
    Calls Try.prog 13 #[.string a0] w fun e w' => e = .returned (.string r) ∧ Below w.heap.size w w' := by
  unfold squeeze_Fixed.f at h
  split at h
  · rename_i hs
    injection h with h
    subst h
    exact sfixed_calls w a0 hs
  · cases h
end Go.Proofs.Ytfoicjlkbkjfjaa.Hand
