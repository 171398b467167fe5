/- Symbols that are written are read again, whatever the codes: the walk by hand says so. -/
import Derived.Test.YtcphjcggnblnkaaP09Ex1
namespace Go.Proofs.Ytcphjcggnblnkaa.Pure
open Go.Proofs.Ytcphjcggnblnkaa.P09E

theorem CodesBack : binderylaw09_CodesBack.Pure := trivial

end Go.Proofs.Ytcphjcggnblnkaa.Pure
