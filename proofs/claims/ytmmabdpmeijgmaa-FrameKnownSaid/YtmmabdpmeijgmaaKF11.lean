/- FrameKnown: the theorem. It says: the call of 'hangfirelaw09.FrameKnown' returns true. -/
import Derived.Test.YtmmabdpmeijgmaaRows
import Derived.Test.YtmmabdpmeijgmaaA27
import Derived.Test.YtmmabdpmeijgmaaKF10
import Derived.WalkKit
import Derived.ProofKit
import Derived.OpenShut
namespace Go.Proofs.Ytmmabdpmeijgmaa.FrameKnown
open Go Go.ChangeShapes Go.WideShapes Go.ChangeAt Go.RowKit Go.Proofs.Ytmmabdpmeijgmaa.AM
open Go.Proofs
theorem own : ownKnob Try.prog.godebug = none := by kernel_rfl
theorem laidOut : laidOutB Try.prog = true := by kernel_rfl

set_option maxRecDepth 100000 in
theorem lifted (os : Os) (started : os.Started) (H : Type) (enc : TypeId × Value → H) :
    ReturnsInHanded {} Try.checked os 6 .any (Rows.frameKnownSpec.pre6 enc Try.prog Try.f6 Rows.frameKnownRow.domain false) (Rows.frameKnownSpec.post enc Try.prog Try.f6 false true false false) := by
  refine returnsInHanded_of_change (C := Try.checked) own started (by kernel_rfl) Try.func6
    (ChangeSpec.witness6 (enc := enc) (C := Try.checked) false ⟨#[], #[], []⟩ 8 (by kernel_rfl) (by kernel_rfl) (by kernel_rfl) (by kernel_rfl)) ?_
  intro W base args ds gs before hval0 hW hcnd _
  have hW2 := hW
  obtain ⟨p, q, hA0, hV, rfl, hfz, hnd⟩ := hW
  have hA : DataW.TrodAll enc Try.prog W 0 (fun _ => true) true Try.f6.params.toList args.toList ds p := hA0
  have hpar : Try.f6.params.toList = [] := by kernel_rfl
  rw [hpar] at hA
  have hargs : args = #[] := by
    obtain ⟨l⟩ := args
    cases l with
    | nil => rfl
    | cons a l => exact hA.elim
  subst hargs
  have hds : ds = [] := by
    cases ds with
    | nil => rfl
    | cons a l => exact hA.elim
  subst hds
  obtain ⟨rfl, rfl⟩ := trodVars_none hV
  have hg : GoodC Try.prog 6 [] [] (.ret (.lit (.bool true)) []) := knownF
  refine law_calls (tb := 4) hg rfl (fun i c u hi hu => by simp at hi) hW2 rfl rfl (by kernel_rfl) (by kernel_rfl) laidOut ?_
  intro t ht
  rw [hpar] at ht
  simp at ht

theorem over : Rows.frameKnownRow.holds Try.pinned (OpenSpec.ofChange Rows.frameKnownSpec) :=
  OpenClaim.holds_of_wide 6 Try.f6 rfl rfl rfl rfl rfl rfl rfl ⟨rfl, rfl, rfl, rfl, rfl⟩ rfl rfl rfl rfl rfl (by kernel_rfl) Try.func6 (by kernel_rfl)
    (of_decide_eq_true (by kernel_rfl)) (by unfold Func.isWrapper; first | (rw [if_pos (by decide +kernel)]; kernel_rfl) | (rw [if_neg (by decide +kernel)]; exact ⟨rfl, rfl⟩))
    (fun os started H enc _ => lifted os started H enc)

theorem proved : Rows.FrameKnownSaid := over
end Go.Proofs.Ytmmabdpmeijgmaa.FrameKnown
