/- The examples of the frames: Merge: the rounds of its loop over a map, where entry 1 comes first. -/
import Derived.Test.YtmmabdpmeijgmaaKF6
namespace Go.Proofs.Ytmmabdpmeijgmaa.AM
open Go Go.Proofs
set_option maxRecDepth 100000
theorem vis1 (r : Nat) : vis 1 r = some (okS r) := by kernel_rfl
end Go.Proofs.Ytmmabdpmeijgmaa.AM
