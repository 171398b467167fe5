/- A text of at most 5000 bytes, of which one byte is another one, has another sum: the walk by hand says so. -/
import Derived.Test.YtgoajdnofekcaaaP05tx1
namespace Go.Proofs.Ytgoajdnofekcaaa.Pure
open Go.Proofs.Ytgoajdnofekcaaa.P05t

theorem AdlerTurned : binderylaw05_AdlerTurned.Pure := trivial

end Go.Proofs.Ytgoajdnofekcaaa.Pure
