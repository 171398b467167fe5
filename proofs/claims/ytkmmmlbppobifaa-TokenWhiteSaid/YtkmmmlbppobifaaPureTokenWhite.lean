/- White bytes and notes ahead of a token turn nothing but places: the walk by hand says so. -/
import Derived.Test.YtkmmmlbppobifaaP15vx1
namespace Go.Proofs.Ytkmmmlbppobifaa.Pure
open Go.Proofs.Ytkmmmlbppobifaa.P15v

theorem TokenWhite : binderylaw15_TokenWhite.Pure := trivial

end Go.Proofs.Ytkmmmlbppobifaa.Pure
