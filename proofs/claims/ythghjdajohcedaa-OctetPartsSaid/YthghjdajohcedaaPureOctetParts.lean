/- Any text is parted by kinds into pieces that are side by side, and between two lines' beginnings just one end of a line stands, at their end: the walk by hand says so. -/
import Derived.Test.YthghjdajohcedaaP01px1
namespace Go.Proofs.Ythghjdajohcedaa.Pure
open Go.Proofs.Ythghjdajohcedaa.P01p

theorem OctetParts : binderylaw01_OctetParts.Pure := trivial

end Go.Proofs.Ythghjdajohcedaa.Pure
