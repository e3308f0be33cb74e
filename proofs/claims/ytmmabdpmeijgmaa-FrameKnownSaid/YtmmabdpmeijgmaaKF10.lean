/- The examples of the frames: FrameKnown: the call of it returns true. -/
import Derived.Test.YtmmabdpmeijgmaaKF8
import Derived.Test.YtmmabdpmeijgmaaKF9
import Derived.Test.YtmmabdpmeijgmaaKFB
namespace Go.Proofs.Ytmmabdpmeijgmaa.AM
open Go Go.Proofs
set_option maxRecDepth 100000
def TH : List EntH := [nMerge, gEncA, gEncB, gEncC, nAwake.toH, gAxA, gAxB, gAxC, nValA.toH, nValB.toH, nNumA.toH, nNumB.toH, nDec.toH, nCommA.toH, nCommB.toH, nSum0.toH, nSum1.toH, bFr.toH, bGap.toH, bInA.toH, bInB.toH, bRep.toH, bAxA.toH, bAxB.toH, bAxC.toH]
theorem tH : ∀ e ∈ TH, EntHOk Try.prog e := fun e h => by
  simp only [TH, List.mem_cons, List.not_mem_nil, or_false] at h
  rcases h with rfl | rfl | rfl | rfl | rfl | rfl | rfl | rfl | rfl | rfl | rfl | rfl | rfl | rfl | rfl | rfl | rfl | rfl | rfl | rfl | rfl | rfl | rfl | rfl | rfl
  · exact eMerge
  · exact fEncA
  · exact fEncB
  · exact fEncC
  · exact eAwake
  · exact fAxA
  · exact fAxB
  · exact fAxC
  · exact eValA
  · exact eValB
  · exact eNumA
  · exact eNumB
  · exact eDec
  · exact eCommA
  · exact eCommB
  · exact eSum0
  · exact eSum1
  · exact eFr
  · exact eGap
  · exact eInA
  · exact eInB
  · exact eRep
  · exact eAxAx
  · exact eAxBx
  · exact eAxCx
theorem knownF : EntOk Try.prog ⟨6, [], Bo true⟩ := by
  have h : fzO ((run2 (nOfH TH) EG (fnsOf Try.prog) 1000).call 6 [] Hm.nil) = some (Bo true) := by kernel_rfl
  exact entZ_of (nOfH_ok tH) mixedF h
end Go.Proofs.Ytmmabdpmeijgmaa.AM
