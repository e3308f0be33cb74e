/- The examples of the countdown: what Play makes of logs. -/
import Derived.Test.YtomlhapghliniaaGreatK2a
import Derived.Test.YtomlhapghliniaaGreatK2b
import Derived.Test.YtomlhapghliniaaGreatK2c
namespace Go.Proofs.YtomlhapghliniaaGreat.AM
open Go Go.Proofs
set_option maxRecDepth 100000
def T1 : List Ent := [n36, n45, d0, d1, d2, d3, d4, d5, d6, d7, d8, d9, d10, d11, d12, d13, d14, d15, d16, d17, d18, v0, v1, v2, v3, v4, v5, v6, v7, v8, v9, v10, v11, v12, v13, v14, v15, v16, v17, v18]
theorem t1 : ∀ e ∈ T1, EntOk Tryz.prog e := fun e h => by
  simp only [T1, List.mem_cons, List.not_mem_nil, or_false] at h
  rcases h with rfl | rfl | rfl | rfl | rfl | rfl | rfl | rfl | rfl | rfl | rfl | rfl | rfl | rfl | rfl | rfl | rfl | rfl | rfl | rfl | rfl | rfl | rfl | rfl | rfl | rfl | rfl | rfl | rfl | rfl | rfl | rfl | rfl | rfl | rfl | rfl | rfl | rfl | rfl | rfl
  · exact e36
  · exact e45
  · exact f0
  · exact f1
  · exact f2
  · exact f3
  · exact f4
  · exact f5
  · exact f6
  · exact f7
  · exact f8
  · exact f9
  · exact f10
  · exact f11
  · exact f12
  · exact f13
  · exact f14
  · exact f15
  · exact f16
  · exact f17
  · exact f18
  · exact w0
  · exact w1
  · exact w2
  · exact w3
  · exact w4
  · exact w5
  · exact w6
  · exact w7
  · exact w8
  · exact w9
  · exact w10
  · exact w11
  · exact w12
  · exact w13
  · exact w14
  · exact w15
  · exact w16
  · exact w17
  · exact w18
def p0 : Ent := ⟨61, [.agg planC, nil0], .tup [desk s0, nil0, I 0]⟩
theorem q0 : EntOk Tryz.prog p0 := entK t1 (by kernel_rfl)
def p1 : Ent := ⟨61, [.agg planC, .rslc 8 [evC 0 1 0, evC 90 2 0, evC 100 2 0, evC 100 1 2, evC 100 1 1]], .tup [desk s3, ints [0, 186, 0, 185, 0], I 0]⟩
theorem q1 : EntOk Tryz.prog p1 := entK t1 (by kernel_rfl)
def p2 : Ent := ⟨61, [.agg planC, .rslc 8 [evC 0 1 0, evC 90 2 0, evC 100 2 0, evC 100 1 2, evC 100 1 1, evC 110 1 2, evC 120 2 1, evC 170 2 2, evC 180 1 3, evC 180 5 0, evC 181 5 1, evC 185 1 3, evC 190 2 3]], .tup [desk s10, ints [0, 186, 0, 185, 0, 0, 0, 0, 184, 0, 0, 0, 0], I 0]⟩
theorem q2 : EntOk Tryz.prog p2 := entK t1 (by kernel_rfl)
def p3 : Ent := ⟨61, [.agg planC, .rslc 8 [evC 0 1 0, evC 90 2 0, evC 100 2 0, evC 100 1 2, evC 100 1 1, evC 110 1 2, evC 120 2 1, evC 170 2 2, evC 180 1 3, evC 180 5 0, evC 181 5 1, evC 185 1 3, evC 190 2 3, evC 190 1 4, evC 199 2 4, evC 200 2 4]], .tup [desk s12, ints [0, 186, 0, 185, 0, 0, 0, 0, 184, 0, 0, 0, 0, 0, 187, 0], I 0]⟩
theorem q3 : EntOk Tryz.prog p3 := entK t1 (by kernel_rfl)
def p4 : Ent := ⟨61, [.agg planC, .rslc 8 [evC 0 1 0, evC 90 2 0, evC 100 2 0, evC 100 1 2, evC 100 1 1, evC 110 1 2, evC 120 2 1, evC 170 2 2, evC 180 1 3, evC 180 5 0, evC 181 5 1, evC 185 1 3, evC 190 2 3, evC 191 6 1, evC 192 1 4, evC 195 7 0]], .tup [desk s14, ints [0, 186, 0, 185, 0, 0, 0, 0, 184, 0, 0, 0, 0, 0, 183, 0], I 0]⟩
theorem q4 : EntOk Tryz.prog p4 := entK t1 (by kernel_rfl)
def T2 : List Ent := [n36, n45, p0, p1, p2, p3, p4]
theorem t2 : ∀ e ∈ T2, EntOk Tryz.prog e := fun e h => by
  simp only [T2, List.mem_cons, List.not_mem_nil, or_false] at h
  rcases h with rfl | rfl | rfl | rfl | rfl | rfl | rfl
  · exact e36
  · exact e45
  · exact q0
  · exact q1
  · exact q2
  · exact q3
  · exact q4
end Go.Proofs.YtomlhapghliniaaGreat.AM
