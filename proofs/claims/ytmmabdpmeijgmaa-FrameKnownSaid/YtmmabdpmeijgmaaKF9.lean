/- The examples of the frames: Encode, in a memory of its own; FrameKnown: the call of it returns true. -/
import Derived.Test.YtmmabdpmeijgmaaKF2
import Derived.Test.YtmmabdpmeijgmaaA41
namespace Go.Proofs.Ytmmabdpmeijgmaa.AM
open Go Go.Proofs
set_option maxRecDepth 100000
noncomputable def EG : Env := envOf Try.prog (fun f => [43, 66, 79, 80, 81, 82, 83, 84, 85, 86, 47, 58, 75].contains f) (fun _ _ => false) (fun f => [42, 54, 20, 21, 22].contains f)
noncomputable def RG (f : FuncId) (args : List AV) : Option (AV × List AObj) := cnO ((run2 (nOf TSumD) EG (fnsOf Try.prog) 1000).call f args Hm.nil)
theorem entG {f : FuncId} {args : List AV} {v : AV} {H : List AObj} (h : RG f args = some (v, H)) : EntHOk Try.prog ⟨f, args, v, H⟩ := entH_of (nOf_ok tSumD) mixedF h
def vE : AV := .tup [.slc 0 0 6 1 6, I 0]
def hE (l : List Int) : List AObj := [.cells (l.map fun n => .lit (.int .u8 n))]
def gEncA : EntH := ⟨15, [fmt, I 0, ints [0]], vE, hE firstC⟩
theorem fEncA : EntHOk Try.prog gEncA := entG (by kernel_rfl)
def gEncB : EntH := ⟨15, [fmt, I 1, ints [258]], vE, hE secondC⟩
theorem fEncB : EntHOk Try.prog gEncB := entG (by kernel_rfl)
def gEncC : EntH := ⟨15, [fmt, I 257, ints [0]], vE, hE thirdC⟩
theorem fEncC : EntHOk Try.prog gEncC := entG (by kernel_rfl)
def ci (l : List Int) : AObj := .cells (l.map I)
def gAxA : EntH := ⟨10, [fmt, skyC, repsC [repC 0 false 34368, repC 1 false 35768]], .tup [.slc 0 0 2 2 4, I 0], [.cells [I 0, .slc 1 0 2 1 2, I 1, .slc 2 0 1 1 1], ci [1, 2], ci [1]]⟩
theorem fAxA : EntHOk Try.prog gAxA := entG (by kernel_rfl)
def gAxB : EntH := ⟨10, [fmt, skyC, repsC [repC 0 false 34368, repC 2 false 34768]], .tup [.slc 0 0 3 2 6, I 0], [.cells [I 0, .slc 1 0 2 1 2, I 1, .slc 2 0 3 1 3, I 2, .slc 3 0 1 1 1], ci [1, 2], ci [0, 1, 2], ci [0]]⟩
theorem fAxB : EntHOk Try.prog gAxB := entG (by kernel_rfl)
def gAxC : EntH := ⟨10, [fmt, skyC, repsC [repC 1 true 35768, repC 2 false 34368]], .tup [.slc 0 0 2 2 4, I 0], [.cells [I 1, .slc 1 0 3 1 3, I 2, .slc 2 0 2 1 2], ci [0, 1, 2], ci [1, 2]]⟩
theorem fAxC : EntHOk Try.prog gAxC := entG (by kernel_rfl)
end Go.Proofs.Ytmmabdpmeijgmaa.AM
