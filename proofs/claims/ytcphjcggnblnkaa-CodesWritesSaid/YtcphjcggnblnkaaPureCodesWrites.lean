/- Which bytes any symbols are by any codes, as the document says: the walk by hand says so. -/
import Derived.Test.YtcphjcggnblnkaaP09Dx1
namespace Go.Proofs.Ytcphjcggnblnkaa.Pure
open Go.Proofs.Ytcphjcggnblnkaa.P09D

theorem CodesWrites : binderylaw09_CodesWrites.Pure := trivial

end Go.Proofs.Ytcphjcggnblnkaa.Pure
