/- Whether any lengths may be, and which codes they make, or why none, as the document says: the walk by hand says so. -/
import Derived.Test.YtcphjcggnblnkaaP09Ax1
namespace Go.Proofs.Ytcphjcggnblnkaa.Pure
open Go.Proofs.Ytcphjcggnblnkaa.P09A

theorem CodesTells : binderylaw09_CodesTells.Pure := trivial

end Go.Proofs.Ytcphjcggnblnkaa.Pure
