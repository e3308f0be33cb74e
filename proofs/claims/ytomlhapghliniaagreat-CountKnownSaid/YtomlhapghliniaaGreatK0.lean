/- The examples' plan and pad, as the machine sees them; how functions are called. -/
import Derived.Test.YtomlhapghliniaaGreatA38
import Derived.Test.YtomlhapghliniaaGreatProg
import Derived.KernelRfl
namespace Go.Proofs.YtomlhapghliniaaGreat.AM
open Go Go.Proofs
set_option maxRecDepth 100000

noncomputable def EK : Env := envOf Tryz.prog (fun f => [46, 205, 206, 207, 208, 209, 210, 211, 212, 213, 131, 85, 137, 138, 139, 140, 141, 142, 143, 144, 145, 190, 74, 53, 116, 174, 175, 215, 232, 216, 217, 218, 219, 220, 177, 122, 123, 124, 125].contains f) (fun _ _ => false) (fun f => [73, 103, 187].contains f)
noncomputable def RK (l : List Ent) (f : FuncId) (args : List AV) : Option AV := fzO ((run2 (nOf l) EK (fnsOf Tryz.prog) 1000).call f args Hm.nil)
theorem mixedK : Tryz.prog.follows .mixedOrders = true := by kernel_rfl
theorem entK {l : List Ent} (hl : ∀ e ∈ l, EntOk Tryz.prog e) {f : FuncId} {args : List AV} {v : AV} (h : RK l f args = some v) : EntOk Tryz.prog ⟨f, args, v⟩ := ent_of hl mixedK h

def I (n : Int) : AV := .lit (.int .i64 n)
def Bo (b : Bool) : AV := .lit (.bool b)
def St (l : List UInt8) : AV := .lit (.string ⟨l.toArray⟩)
def ints (l : List Int) : AV := .rslc 1 (l.map fun n => [I n])
def bools (l : List Bool) : AV := .rslc 1 (l.map fun b => [Bo b])
def nil0 : AV := .lit (.slice none 0 0)

/-- The pad of the examples. -/
def padC : List AV := [
  .rslc 8 [[St [98, 117, 110, 107, 101, 114], I (-500000), I (-400000), I 0, I 50000, I 0, I 8, Bo false], [St [114, 111, 97, 100], I (-300000), I (-100000), I (-10000), I 10000, I 1, I 4, Bo false], [St [114, 97, 105, 108], I (-5000), I 5000, I (-5000), I 5000, I 2, I 2, Bo true]],
  .rslc 2 [[I (-1), I 0], [I 0, I 1], [I 2, I 1]],
  .rslc 2 [[St [97, 110, 110], I 5], [St [98, 111, 98], I 2], [St [101, 118, 101], I 1]],
  .rslc 1 [[St [114, 101, 100]], [St [98, 108, 117, 101]], [St [103, 114, 101, 121]]],
  .rslc 6 [[St [109, 111, 116, 111, 114], I 0, I 0, I 100000, I 5, ints [0, 1]], [St [99, 104, 117, 116, 101], I 0, I 3000, I 20000, I 3, ints [2]]],
  I 0, I 100]
/-- The plan of the examples. -/
def planC : List AV := padC ++ [
  .rslc 1 [[St [114, 97, 110, 103, 101]], [St [115, 97, 102, 101, 116, 121]]],
  .rslc 3 [[St [109, 97, 105, 110], I 1000, I 2]],
  .rslc 9 [
    [St [102, 105, 108, 108], nil0, I 100, I 200, Bo false, nil0, nil0, nil0, nil0],
    [St [112, 111, 119, 101, 114], ints [0], I 10, I 500, Bo false, ints [0], nil0, nil0, nil0],
    [St [99, 104, 101, 99, 107], ints [0], I 50, I 300, Bo false, nil0, ints [0], nil0, nil0],
    [St [112, 111, 108, 108], ints [1, 2], I 0, I 20, Bo true, nil0, ints [0], nil0, nil0],
    [St [108, 97, 117, 110, 99, 104], ints [3], I 5, I 60, Bo true, nil0, ints [0], ints [0], nil0]],
  ints [1, 3], I 200, I 400]
def evC (at_ kind what : Int) : List AV := [I at_, I kind, I what, I 0, I 0, I 0, I 0, I 0]
def logC : List (List AV) := [evC 0 1 0, evC 90 2 0, evC 100 2 0, evC 100 1 2, evC 100 1 1, evC 110 1 2, evC 120 2 1, evC 170 2 2, evC 180 1 3, evC 180 5 0, evC 181 5 1, evC 185 1 3, evC 190 2 3, evC 190 1 4, evC 199 2 4, evC 200 2 4]
end Go.Proofs.YtomlhapghliniaaGreat.AM
