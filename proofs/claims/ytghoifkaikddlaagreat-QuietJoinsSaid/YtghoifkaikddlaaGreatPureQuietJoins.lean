/- QuietJoins says that bytes are loud if a part of them is: the walk by hand: the walk by hand says so. -/
import Derived.Test.YtghoifkaikddlaaGreatP19jx1
namespace Go.Proofs.YtghoifkaikddlaaGreat.Pure
open Go.Proofs.YtghoifkaikddlaaGreat.P19j

theorem QuietJoins : binderylaw19_QuietJoins.Pure := trivial

end Go.Proofs.YtghoifkaikddlaaGreat.Pure
