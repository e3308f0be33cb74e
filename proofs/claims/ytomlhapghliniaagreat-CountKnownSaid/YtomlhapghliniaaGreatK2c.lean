/- The examples of the countdown: the checks of events. -/
import Derived.Test.YtomlhapghliniaaGreatK1
namespace Go.Proofs.YtomlhapghliniaaGreat.AM
open Go Go.Proofs
set_option maxRecDepth 100000
def v0 : Ent := ⟨119, [.agg planC, .agg (evC 0 1 0)], I 0⟩
theorem w0 : EntOk Tryz.prog v0 := entK t0 (by kernel_rfl)
def v1 : Ent := ⟨119, [.agg planC, .agg (evC 90 2 0)], I 0⟩
theorem w1 : EntOk Tryz.prog v1 := entK t0 (by kernel_rfl)
def v2 : Ent := ⟨119, [.agg planC, .agg (evC 100 2 0)], I 0⟩
theorem w2 : EntOk Tryz.prog v2 := entK t0 (by kernel_rfl)
def v3 : Ent := ⟨119, [.agg planC, .agg (evC 100 1 2)], I 0⟩
theorem w3 : EntOk Tryz.prog v3 := entK t0 (by kernel_rfl)
def v4 : Ent := ⟨119, [.agg planC, .agg (evC 100 1 1)], I 0⟩
theorem w4 : EntOk Tryz.prog v4 := entK t0 (by kernel_rfl)
def v5 : Ent := ⟨119, [.agg planC, .agg (evC 110 1 2)], I 0⟩
theorem w5 : EntOk Tryz.prog v5 := entK t0 (by kernel_rfl)
def v6 : Ent := ⟨119, [.agg planC, .agg (evC 120 2 1)], I 0⟩
theorem w6 : EntOk Tryz.prog v6 := entK t0 (by kernel_rfl)
def v7 : Ent := ⟨119, [.agg planC, .agg (evC 170 2 2)], I 0⟩
theorem w7 : EntOk Tryz.prog v7 := entK t0 (by kernel_rfl)
def v8 : Ent := ⟨119, [.agg planC, .agg (evC 180 1 3)], I 0⟩
theorem w8 : EntOk Tryz.prog v8 := entK t0 (by kernel_rfl)
def v9 : Ent := ⟨119, [.agg planC, .agg (evC 180 5 0)], I 0⟩
theorem w9 : EntOk Tryz.prog v9 := entK t0 (by kernel_rfl)
def v10 : Ent := ⟨119, [.agg planC, .agg (evC 181 5 1)], I 0⟩
theorem w10 : EntOk Tryz.prog v10 := entK t0 (by kernel_rfl)
def v11 : Ent := ⟨119, [.agg planC, .agg (evC 185 1 3)], I 0⟩
theorem w11 : EntOk Tryz.prog v11 := entK t0 (by kernel_rfl)
def v12 : Ent := ⟨119, [.agg planC, .agg (evC 190 2 3)], I 0⟩
theorem w12 : EntOk Tryz.prog v12 := entK t0 (by kernel_rfl)
def v13 : Ent := ⟨119, [.agg planC, .agg (evC 190 1 4)], I 0⟩
theorem w13 : EntOk Tryz.prog v13 := entK t0 (by kernel_rfl)
def v14 : Ent := ⟨119, [.agg planC, .agg (evC 199 2 4)], I 0⟩
theorem w14 : EntOk Tryz.prog v14 := entK t0 (by kernel_rfl)
def v15 : Ent := ⟨119, [.agg planC, .agg (evC 200 2 4)], I 0⟩
theorem w15 : EntOk Tryz.prog v15 := entK t0 (by kernel_rfl)
def v16 : Ent := ⟨119, [.agg planC, .agg (evC 191 6 1)], I 0⟩
theorem w16 : EntOk Tryz.prog v16 := entK t0 (by kernel_rfl)
def v17 : Ent := ⟨119, [.agg planC, .agg (evC 192 1 4)], I 0⟩
theorem w17 : EntOk Tryz.prog v17 := entK t0 (by kernel_rfl)
def v18 : Ent := ⟨119, [.agg planC, .agg (evC 195 7 0)], I 0⟩
theorem w18 : EntOk Tryz.prog v18 := entK t0 (by kernel_rfl)
end Go.Proofs.YtomlhapghliniaaGreat.AM
