/- Which symbols any bytes are by any codes, one behind the other, up to the first error, and where that leaves off: the walk by hand says so. -/
import Derived.Test.YtcphjcggnblnkaaP09Cx1
namespace Go.Proofs.Ytcphjcggnblnkaa.Pure
open Go.Proofs.Ytcphjcggnblnkaa.P09C

theorem CodesReads : binderylaw09_CodesReads.Pure := trivial

end Go.Proofs.Ytcphjcggnblnkaa.Pure
