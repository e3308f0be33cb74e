/- The examples of the frames: Merge: the rounds of its loop over a map, where entry 0 comes first. -/
import Derived.Test.YtmmabdpmeijgmaaKF6
namespace Go.Proofs.Ytmmabdpmeijgmaa.AM
open Go Go.Proofs
set_option maxRecDepth 100000
theorem vis0 (r : Nat) : vis 0 r = some (okS r) := by kernel_rfl
end Go.Proofs.Ytmmabdpmeijgmaa.AM
