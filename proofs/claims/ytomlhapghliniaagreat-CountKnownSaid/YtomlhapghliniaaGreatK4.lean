/- The examples of the countdown: Awake, CountKnown. -/
import Derived.Test.YtomlhapghliniaaGreatK3
namespace Go.Proofs.YtomlhapghliniaaGreat.AM
open Go Go.Proofs
set_option maxRecDepth 100000
def n24 : Ent := ⟨24, [], Bo true⟩
theorem e24 : EntOk Tryz.prog n24 := entK t2 (by kernel_rfl)
def T3 : List Ent := n24 :: T2
theorem t3 : ∀ e ∈ T3, EntOk Tryz.prog e := fun e h => by
  rcases List.mem_cons.1 h with rfl | h
  · exact e24
  · exact t2 e h
theorem known : EntOk Tryz.prog ⟨12, [], Bo true⟩ := entK t3 (by kernel_rfl)
end Go.Proofs.YtomlhapghliniaaGreat.AM
