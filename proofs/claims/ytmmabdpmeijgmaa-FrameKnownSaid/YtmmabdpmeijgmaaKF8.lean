/- The examples of the frames: Merge: what the call returns. -/
import Derived.Test.YtmmabdpmeijgmaaKF7a
import Derived.Test.YtmmabdpmeijgmaaKF7b
import Derived.Test.YtmmabdpmeijgmaaKF7c
namespace Go.Proofs.Ytmmabdpmeijgmaa.AM
open Go Go.Proofs
set_option maxRecDepth 100000
theorem oF : OracleOk Try.prog OF := run_ok (envOf_ok _ _ _ _) (nOf_ok tReadC) mixedF (fnsOf_ok _) 60
theorem hA : runL OF EF 11 false lM ⟨aM ++ List.replicate (Try.f11.ntmps - aM.length) undefAV, [], []⟩ = some (gtS sA) := by kernel_rfl
theorem h1M : opRun OF EF 11 false fM.oa (gtS sA) = some (.next (gtS s1M)) := by kernel_rfl
theorem hDM : (gtS s1M).D = [] := by kernel_rfl
theorem hevM : evT (gtS s1M).tmps fM.x = some (.map 1) := by kernel_rfl
theorem hHM : (gtS s1M).H[1]? = some (.map esM 3) := by kernel_rfl
theorem bornM : esM.map (·.2.2) = [0, 1, 2] := by kernel_rfl
theorem lenM : (gtS s1M).tmps.length = 136 := by kernel_rfl
theorem esM3 : esM = [esM.getD 0 (.dead, .dead, 0), esM.getD 1 (.dead, .dead, 0), esM.getD 2 (.dead, .dead, 0)] := by kernel_rfl
theorem undM : ∃ k e, Try.prog.underlying fM.t = some (.map k e) := ⟨121, 39, by kernel_rfl⟩
theorem okM (r : Nat) : (okS r).Ok r (esM, 3) (vM, hM) :=
  ⟨fun x h => (List.mem_replicate.1 h).2, fun x h => (List.mem_replicate.1 h).2, fun x h => by
    have h : x ∈ [(vM, hM), (vM, hM)] := h
    simp at h
    exact h⟩
theorem rounds (r : Nat) : Rnds OF EF 11 false fM.body 1 (fun s => fiM s = some (vM, hM)) esM (sM r) := by
  have key : Rnds OF EF 11 false fB 1 (fun s => fiM s = some (vM, hM)) [esM.getD 0 (.dead, .dead, 0), esM.getD 1 (.dead, .dead, 0), esM.getD 2 (.dead, .dead, 0)] (sM r) := by
    refine visitE_ok (n := 3) (r := r) (es := esM) (clock := 3) (fun e he => ?_) ?_ hHM
    · rw [← esM3]
      refine ⟨okS r, ?_, okM r⟩
      simp only [List.mem_cons, List.not_mem_nil, or_false] at he
      rcases he with rfl | rfl | rfl
      · exact vis0 r
      · exact vis1 r
      · exact vis2 r
    · show (setD _ (some 81) _)[81]? = _
      simp [setD, lenM]
  rw [← esM3] at key
  exact key
def nMerge : EntH := ⟨11, aM, vM, hM⟩
theorem eMerge : EntHOk Try.prog nMerge := by
  obtain ⟨k, e, hu⟩ := undM
  refine callMC_good (fin := fiM) (z := (vM, hM)) (l := lM) (b := bb) (y := yM) (ti := 81) (id := 1) (sA := gtS sA) (s1 := gtS s1M) (es := esM) (clock := 3) (fns := fnsOf Try.prog) (fn := Try.f11) (envOf_ok _ _ _ _) oF mixedF (fnsOf_ok _) fM (by kernel_rfl) bodyM hu hA h1M hDM hevM hHM (fun x h => ?_) ?_ (by rw [lenM]; decide) (fun s h => finC_ok h) rounds
  · have h2 : x.2.2 ∈ esM.map (·.2.2) := List.mem_map.2 ⟨x, h, rfl⟩
    rw [bornM] at h2
    simp at h2
    omega
  · rw [bornM]; decide
end Go.Proofs.Ytmmabdpmeijgmaa.AM
