/- No code begins with another one, and each has just as many bits as it is long: the walk by hand says so. -/
import Derived.Test.YtcphjcggnblnkaaP09Bx1
namespace Go.Proofs.Ytcphjcggnblnkaa.Pure
open Go.Proofs.Ytcphjcggnblnkaa.P09B

theorem CodesPrefix : binderylaw09_CodesPrefix.Pure := trivial

end Go.Proofs.Ytcphjcggnblnkaa.Pure
