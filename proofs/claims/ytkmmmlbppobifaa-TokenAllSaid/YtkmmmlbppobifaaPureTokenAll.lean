/- TokenAll says which tokens any text has, and how many, and which error ends them: the walk by hand: the walk by hand says so. -/
import Derived.Test.YtkmmmlbppobifaaP15zx1
namespace Go.Proofs.Ytkmmmlbppobifaa.Pure
open Go.Proofs.Ytkmmmlbppobifaa.P15z
theorem TokenAll : binderylaw15_TokenAll.Pure := trivial
end Go.Proofs.Ytkmmmlbppobifaa.Pure
