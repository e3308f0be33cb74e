/- The examples of the countdown: events, one by one. -/
import Derived.Test.YtomlhapghliniaaGreatK1
namespace Go.Proofs.YtomlhapghliniaaGreat.AM
open Go Go.Proofs
set_option maxRecDepth 100000
def d0 : Ent := ⟨75, [desk s0, .agg (evC 0 1 0)], .tup [desk s1, I 0]⟩
theorem f0 : EntOk Tryz.prog d0 := entK t0 (by kernel_rfl)
def d1 : Ent := ⟨75, [desk s1, .agg (evC 90 2 0)], .tup [desk s1, I 186]⟩
theorem f1 : EntOk Tryz.prog d1 := entK t0 (by kernel_rfl)
def d2 : Ent := ⟨75, [desk s1, .agg (evC 100 2 0)], .tup [desk s2, I 0]⟩
theorem f2 : EntOk Tryz.prog d2 := entK t0 (by kernel_rfl)
def d3 : Ent := ⟨75, [desk s2, .agg (evC 100 1 2)], .tup [desk s2, I 185]⟩
theorem f3 : EntOk Tryz.prog d3 := entK t0 (by kernel_rfl)
def d4 : Ent := ⟨75, [desk s2, .agg (evC 100 1 1)], .tup [desk s3, I 0]⟩
theorem f4 : EntOk Tryz.prog d4 := entK t0 (by kernel_rfl)
def d5 : Ent := ⟨75, [desk s3, .agg (evC 110 1 2)], .tup [desk s4, I 0]⟩
theorem f5 : EntOk Tryz.prog d5 := entK t0 (by kernel_rfl)
def d6 : Ent := ⟨75, [desk s4, .agg (evC 120 2 1)], .tup [desk s5, I 0]⟩
theorem f6 : EntOk Tryz.prog d6 := entK t0 (by kernel_rfl)
def d7 : Ent := ⟨75, [desk s5, .agg (evC 170 2 2)], .tup [desk s6, I 0]⟩
theorem f7 : EntOk Tryz.prog d7 := entK t0 (by kernel_rfl)
def d8 : Ent := ⟨75, [desk s6, .agg (evC 180 1 3)], .tup [desk s6, I 184]⟩
theorem f8 : EntOk Tryz.prog d8 := entK t0 (by kernel_rfl)
def d9 : Ent := ⟨75, [desk s6, .agg (evC 180 5 0)], .tup [desk s7, I 0]⟩
theorem f9 : EntOk Tryz.prog d9 := entK t0 (by kernel_rfl)
end Go.Proofs.YtomlhapghliniaaGreat.AM
