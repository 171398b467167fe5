/- Where the lines of any text begin, and where the first one begins that has a word: as the document says; the walk by hand says so. -/
import Derived.Test.YthghjdajohcedaaP01lx1
namespace Go.Proofs.Ythghjdajohcedaa.Pure
open Go.Proofs.Ythghjdajohcedaa.P01l

theorem OctetLines : binderylaw01_OctetLines.Pure := trivial

end Go.Proofs.Ythghjdajohcedaa.Pure
