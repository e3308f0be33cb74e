/- The examples of the countdown: the checks of the pad and of the plan. -/
import Derived.Test.YtomlhapghliniaaGreatK0
namespace Go.Proofs.YtomlhapghliniaaGreat.AM
open Go Go.Proofs
set_option maxRecDepth 100000
def n45 : Ent := ⟨45, [.agg padC], .tup [I 0, I 0, I 0]⟩
theorem e45 : EntOk Tryz.prog n45 := entK (l := []) (fun _ h => by cases h) (by kernel_rfl)
def n36 : Ent := ⟨36, [.agg planC], .tup [I 0, I 0, I 0]⟩
theorem e36 : EntOk Tryz.prog n36 := entK (l := [n45]) (fun e h => by simp at h; subst h; exact e45) (by kernel_rfl)
def T0 : List Ent := [n36, n45]
theorem t0 : ∀ e ∈ T0, EntOk Tryz.prog e := fun e h => by
  simp only [T0, List.mem_cons, List.not_mem_nil, or_false] at h
  rcases h with rfl | rfl
  · exact e36
  · exact e45
def desk (st : List AV) : AV := .rptr (planC ++ st)
def s0 : List AV := [I 0, I 0, ints [-1, -1, -1], ints [-1, -1, -1], ints [0, 0], I (-1), Bo false, ints [-1, -1, -1, -1, -1], ints [-1, -1, -1, -1, -1], Bo false, bools [false, false], ints [1000], bools [false]]
def s1 : List AV := [I 0, I 0, ints [-1, -1, -1], ints [-1, -1, -1], ints [0, 0], I (-1), Bo false, ints [0, -1, -1, -1, -1], ints [-1, -1, -1, -1, -1], Bo false, bools [false, false], ints [1000], bools [false]]
def s2 : List AV := [I 100, I 0, ints [-1, -1, -1], ints [-1, -1, -1], ints [0, 0], I (-1), Bo false, ints [0, -1, -1, -1, -1], ints [100, -1, -1, -1, -1], Bo false, bools [false, false], ints [1000], bools [false]]
def s3 : List AV := [I 100, I 0, ints [-1, -1, -1], ints [-1, -1, -1], ints [0, 0], I (-1), Bo false, ints [0, 100, -1, -1, -1], ints [100, -1, -1, -1, -1], Bo false, bools [false, false], ints [1000], bools [true]]
def s4 : List AV := [I 110, I 0, ints [-1, -1, -1], ints [-1, -1, -1], ints [0, 0], I (-1), Bo false, ints [0, 100, 110, -1, -1], ints [100, -1, -1, -1, -1], Bo false, bools [false, false], ints [980], bools [true]]
def s5 : List AV := [I 120, I 0, ints [-1, -1, -1], ints [-1, -1, -1], ints [0, 0], I (-1), Bo false, ints [0, 100, 110, -1, -1], ints [100, 120, -1, -1, -1], Bo false, bools [false, false], ints [960], bools [true]]
def s6 : List AV := [I 170, I 0, ints [-1, -1, -1], ints [-1, -1, -1], ints [0, 0], I (-1), Bo false, ints [0, 100, 110, -1, -1], ints [100, 120, 170, -1, -1], Bo false, bools [false, false], ints [860], bools [true]]
def s7 : List AV := [I 180, I 0, ints [-1, -1, -1], ints [-1, -1, -1], ints [0, 0], I (-1), Bo false, ints [0, 100, 110, -1, -1], ints [100, 120, 170, -1, -1], Bo false, bools [true, false], ints [840], bools [true]]
def s8 : List AV := [I 181, I 0, ints [-1, -1, -1], ints [-1, -1, -1], ints [0, 0], I (-1), Bo false, ints [0, 100, 110, -1, -1], ints [100, 120, 170, -1, -1], Bo false, bools [true, true], ints [838], bools [true]]
def s9 : List AV := [I 185, I 0, ints [-1, -1, -1], ints [-1, -1, -1], ints [0, 0], I (-1), Bo false, ints [0, 100, 110, 185, -1], ints [100, 120, 170, -1, -1], Bo false, bools [true, true], ints [830], bools [true]]
def s10 : List AV := [I 190, I 0, ints [-1, -1, -1], ints [-1, -1, -1], ints [0, 0], I (-1), Bo false, ints [0, 100, 110, 185, -1], ints [100, 120, 170, 190, -1], Bo false, bools [true, true], ints [820], bools [true]]
def s11 : List AV := [I 190, I 0, ints [-1, -1, -1], ints [-1, -1, -1], ints [0, 0], I (-1), Bo false, ints [0, 100, 110, 185, 190], ints [100, 120, 170, 190, -1], Bo false, bools [true, true], ints [820], bools [true]]
def s12 : List AV := [I 200, I 0, ints [-1, -1, -1], ints [-1, -1, -1], ints [0, 0], I (-1), Bo false, ints [0, 100, 110, 185, 190], ints [100, 120, 170, 190, 200], Bo false, bools [true, true], ints [800], bools [false]]
def s13 : List AV := [I 191, I 0, ints [-1, -1, -1], ints [-1, -1, -1], ints [0, 0], I (-1), Bo false, ints [0, 100, 110, 185, -1], ints [100, 120, 170, 190, -1], Bo true, bools [true, false], ints [818], bools [true]]
def s14 : List AV := [I 195, I 0, ints [-1, -1, -1], ints [-1, -1, -1], ints [0, 0], I (-1), Bo false, ints [0, -1, -1, -1, -1], ints [100, -1, -1, -1, -1], Bo true, bools [false, false], ints [810], bools [false]]
end Go.Proofs.YtomlhapghliniaaGreat.AM
