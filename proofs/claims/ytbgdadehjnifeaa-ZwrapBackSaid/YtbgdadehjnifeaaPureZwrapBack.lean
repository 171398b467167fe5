/- What is wrapped (at most 3000 bytes) is unwrapped, with just as much room, and not with less; cut off anywhere it is too short; with a byte of its sum turned it is not unwrapped; conditions: none beyond the statement's own: the walk by hand says so. -/
import Derived.Test.YtbgdadehjnifeaaP12cx1
namespace Go.Proofs.Ytbgdadehjnifeaa.Pure
open Go.Proofs.Ytbgdadehjnifeaa.P12c

theorem ZwrapBack : binderylaw12_ZwrapBack.Pure := trivial

end Go.Proofs.Ytbgdadehjnifeaa.Pure
