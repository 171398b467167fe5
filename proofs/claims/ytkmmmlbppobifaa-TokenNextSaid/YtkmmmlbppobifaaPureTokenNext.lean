/- TokenNext says which token begins where, in any text, from any place on, or why none: the walk by hand: the walk by hand says so. -/
import Derived.Test.YtkmmmlbppobifaaP15yx1
namespace Go.Proofs.Ytkmmmlbppobifaa.Pure
open Go.Proofs.Ytkmmmlbppobifaa.P15y
theorem TokenNext : binderylaw15_TokenNext.Pure := trivial
end Go.Proofs.Ytkmmmlbppobifaa.Pure
