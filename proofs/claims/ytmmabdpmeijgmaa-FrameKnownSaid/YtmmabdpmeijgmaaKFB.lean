/- The examples of the frames: comparisons of what calls return with what the document says. -/
import Derived.Test.YtmmabdpmeijgmaaKF0
namespace Go.Proofs.Ytmmabdpmeijgmaa.AM
open Go Go.Proofs
set_option maxRecDepth 100000
theorem entB {f : FuncId} {args : List AV} {v : AV} (h : RF2 [] f args = some v) : EntOk Try.prog ⟨f, args, v⟩ := entF (l := []) (fun _ h => by cases h) h
def frsC : AV := .rslc 3 [frC 0 0 0, frC 7 1 258]
def gapC : AV := .rslc 2 [[I 6, I 7]]
def repsA : AV := .rslc 5 [[I 0, I 0, I 1, Bo false, ints [0]], [I 1, I 0, I 2, Bo true, ints [258]]]
def axA : AV := axs [(0, [1, 2]), (1, [1])]
def axB : AV := axs [(0, [1, 2]), (1, [0, 1, 2]), (2, [0])]
def axC : AV := axs [(1, [0, 1, 2]), (2, [1, 2])]
def bFr : Ent := ⟨25, [frsC, frsC], Bo true⟩
theorem eFr : EntOk Try.prog bFr := entB (by kernel_rfl)
def bGap : Ent := ⟨26, [gapC, gapC], Bo true⟩
theorem eGap : EntOk Try.prog bGap := entB (by kernel_rfl)
def bInA : Ent := ⟨17, [ints [0, 1], ints [0, 1]], Bo true⟩
theorem eInA : EntOk Try.prog bInA := entB (by kernel_rfl)
def bInB : Ent := ⟨17, [ints [256, 257], ints [256, 257]], Bo true⟩
theorem eInB : EntOk Try.prog bInB := entB (by kernel_rfl)
def bRep : Ent := ⟨13, [repsA, repsA], Bo true⟩
theorem eRep : EntOk Try.prog bRep := entB (by kernel_rfl)
def bAxA : Ent := ⟨30, [axA, axA], Bo true⟩
theorem eAxAx : EntOk Try.prog bAxA := entB (by kernel_rfl)
def bAxB : Ent := ⟨30, [axB, axB], Bo true⟩
theorem eAxBx : EntOk Try.prog bAxB := entB (by kernel_rfl)
def bAxC : Ent := ⟨30, [axC, axC], Bo true⟩
theorem eAxCx : EntOk Try.prog bAxC := entB (by kernel_rfl)
end Go.Proofs.Ytmmabdpmeijgmaa.AM
