/- The examples of the countdown: events, one by one. -/
import Derived.Test.YtomlhapghliniaaGreatK1
namespace Go.Proofs.YtomlhapghliniaaGreat.AM
open Go Go.Proofs
set_option maxRecDepth 100000
def d10 : Ent := ⟨75, [desk s7, .agg (evC 181 5 1)], .tup [desk s8, I 0]⟩
theorem f10 : EntOk Tryz.prog d10 := entK t0 (by kernel_rfl)
def d11 : Ent := ⟨75, [desk s8, .agg (evC 185 1 3)], .tup [desk s9, I 0]⟩
theorem f11 : EntOk Tryz.prog d11 := entK t0 (by kernel_rfl)
def d12 : Ent := ⟨75, [desk s9, .agg (evC 190 2 3)], .tup [desk s10, I 0]⟩
theorem f12 : EntOk Tryz.prog d12 := entK t0 (by kernel_rfl)
def d13 : Ent := ⟨75, [desk s10, .agg (evC 190 1 4)], .tup [desk s11, I 0]⟩
theorem f13 : EntOk Tryz.prog d13 := entK t0 (by kernel_rfl)
def d14 : Ent := ⟨75, [desk s11, .agg (evC 199 2 4)], .tup [desk s11, I 187]⟩
theorem f14 : EntOk Tryz.prog d14 := entK t0 (by kernel_rfl)
def d15 : Ent := ⟨75, [desk s11, .agg (evC 200 2 4)], .tup [desk s12, I 0]⟩
theorem f15 : EntOk Tryz.prog d15 := entK t0 (by kernel_rfl)
def d16 : Ent := ⟨75, [desk s10, .agg (evC 191 6 1)], .tup [desk s13, I 0]⟩
theorem f16 : EntOk Tryz.prog d16 := entK t0 (by kernel_rfl)
def d17 : Ent := ⟨75, [desk s13, .agg (evC 192 1 4)], .tup [desk s13, I 183]⟩
theorem f17 : EntOk Tryz.prog d17 := entK t0 (by kernel_rfl)
def d18 : Ent := ⟨75, [desk s13, .agg (evC 195 7 0)], .tup [desk s14, I 0]⟩
theorem f18 : EntOk Tryz.prog d18 := entK t0 (by kernel_rfl)
end Go.Proofs.YtomlhapghliniaaGreat.AM
