/- What any bytes (at most 400, that tell at most 5000) are, unwrapped, or why nothing, is as the document says; conditions: none beyond the statement's own: the walk by hand says so. -/
import Derived.Test.YtbgdadehjnifeaaGreatP12qx1
namespace Go.Proofs.YtbgdadehjnifeaaGreat.Pure
open Go.Proofs.YtbgdadehjnifeaaGreat.P12q
theorem ZwrapUnwraps : binderylaw12_ZwrapUnwraps.Pure := trivial
end Go.Proofs.YtbgdadehjnifeaaGreat.Pure
