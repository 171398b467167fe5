/- A token does not hang on what stands ahead of it: the walk by hand says so. -/
import Derived.Test.YtkmmmlbppobifaaP15jx1
namespace Go.Proofs.Ytkmmmlbppobifaa.Pure
open Go.Proofs.Ytkmmmlbppobifaa.P15j

theorem TokenShift : binderylaw15_TokenShift.Pure := trivial

end Go.Proofs.Ytkmmmlbppobifaa.Pure
