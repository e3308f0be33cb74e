/- The examples of the frames: calls (2). -/
import Derived.Test.YtmmabdpmeijgmaaKF1
namespace Go.Proofs.Ytmmabdpmeijgmaa.AM
open Go Go.Proofs
set_option maxRecDepth 100000
def nAxA : Ent := ⟨10, [fmt, skyC, repsC [repC 0 false 34368, repC 1 false 35768]], tO [axs [(0, [1, 2]), (1, [1])]]⟩
theorem eAxA : EntOk Try.prog nAxA := entF (l := TValB) tValB (by kernel_rfl)
def TAxA : List Ent := nAxA :: TValB
theorem tAxA : ∀ x ∈ TAxA, EntOk Try.prog x := tcons eAxA tValB
def nAxB : Ent := ⟨10, [fmt, skyC, repsC [repC 0 false 34368, repC 2 false 34768]], tO [axs [(0, [1, 2]), (1, [0, 1, 2]), (2, [0])]]⟩
theorem eAxB : EntOk Try.prog nAxB := entF (l := TAxA) tAxA (by kernel_rfl)
def TAxB : List Ent := nAxB :: TAxA
theorem tAxB : ∀ x ∈ TAxB, EntOk Try.prog x := tcons eAxB tAxA
def nAxC : Ent := ⟨10, [fmt, skyC, repsC [repC 1 true 35768, repC 2 false 34368]], tO [axs [(1, [0, 1, 2]), (2, [1, 2])]]⟩
theorem eAxC : EntOk Try.prog nAxC := entF (l := TAxB) tAxB (by kernel_rfl)
def TAxC : List Ent := nAxC :: TAxB
theorem tAxC : ∀ x ∈ TAxC, EntOk Try.prog x := tcons eAxC tAxB
def nAwake : Ent := ⟨8, [], Bo true⟩
theorem eAwake : EntOk Try.prog nAwake := entF (l := TAxC) tAxC (by kernel_rfl)
def TAwake : List Ent := nAwake :: TAxC
theorem tAwake : ∀ x ∈ TAwake, EntOk Try.prog x := tcons eAwake tAxC
end Go.Proofs.Ytmmabdpmeijgmaa.AM
