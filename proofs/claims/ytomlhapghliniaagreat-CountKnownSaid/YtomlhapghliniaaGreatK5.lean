/- CountKnown: the theorem. It says: the call of 'hangfirelaw08.CountKnown' returns true. -/
import Derived.Test.YtomlhapghliniaaGreatRows
import Derived.Test.YtomlhapghliniaaGreatA27
import Derived.Test.YtomlhapghliniaaGreatK4
import Derived.WalkKit
import Derived.ProofKit
import Derived.OpenShut
namespace Go.Proofs.YtomlhapghliniaaGreat.CountKnown
open Go Go.ChangeShapes Go.WideShapes Go.ChangeAt Go.RowKit Go.Proofs.YtomlhapghliniaaGreat.AM
open Go.Proofs
theorem own : ownKnob Tryz.prog.godebug = none := by kernel_rfl
theorem laidOut : laidOutB Tryz.prog = true := by kernel_rfl

set_option maxRecDepth 100000 in
theorem lifted (os : Os) (started : os.Started) (H : Type) (enc : TypeId × Value → H) :
    ReturnsInHanded {} Tryz.checked os 12 .any (Rows.countKnownSpec.pre6 enc Tryz.prog Tryz.f12 Rows.countKnownRow.domain false) (Rows.countKnownSpec.post enc Tryz.prog Tryz.f12 false true false false) := by
  refine returnsInHanded_of_change (C := Tryz.checked) own started (by kernel_rfl) Tryz.func12
    (ChangeSpec.witness6 (enc := enc) (C := Tryz.checked) false ⟨#[], #[], []⟩ 8 (by kernel_rfl) (by kernel_rfl) (by kernel_rfl) (by kernel_rfl)) ?_
  intro W base args ds gs before hval0 hW hcnd _
  have hW2 := hW
  obtain ⟨p, q, hA0, hV, rfl, hfz, hnd⟩ := hW
  have hA : DataW.TrodAll enc Tryz.prog W 0 (fun _ => true) true Tryz.f12.params.toList args.toList ds p := hA0
  have hpar : Tryz.f12.params.toList = [] := by kernel_rfl
  rw [hpar] at hA
  have hargs : args = #[] := by
    obtain ⟨l⟩ := args
    cases l with
    | nil => rfl
    | cons a l => exact hA.elim
  subst hargs
  have hds : ds = [] := by
    cases ds with
    | nil => rfl
    | cons a l => exact hA.elim
  subst hds
  obtain ⟨rfl, rfl⟩ := trodVars_none hV
  have hg : GoodC Tryz.prog 12 [] [] (.ret (.lit (.bool true)) []) := known
  refine law_calls (tb := 4) hg rfl (fun i c u hi hu => by simp at hi) hW2 rfl rfl (by kernel_rfl) (by kernel_rfl) laidOut ?_
  intro t ht
  rw [hpar] at ht
  simp at ht

theorem over : Rows.countKnownRow.holds Tryz.pinned (OpenSpec.ofChange Rows.countKnownSpec) :=
  OpenClaim.holds_of_wide 12 Tryz.f12 rfl rfl rfl rfl rfl rfl rfl ⟨rfl, rfl, rfl, rfl, rfl⟩ rfl rfl rfl rfl rfl (by kernel_rfl) Tryz.func12 (by kernel_rfl)
    (of_decide_eq_true (by kernel_rfl)) (by unfold Func.isWrapper; first | (rw [if_pos (by decide +kernel)]; kernel_rfl) | (rw [if_neg (by decide +kernel)]; exact ⟨rfl, rfl⟩))
    (fun os started H enc _ => lifted os started H enc)

theorem proved : Rows.CountKnownSaid := over
end Go.Proofs.YtomlhapghliniaaGreat.CountKnown
