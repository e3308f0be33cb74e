/- The examples of the frames: calls (1). -/
import Derived.Test.YtmmabdpmeijgmaaKF0
namespace Go.Proofs.Ytmmabdpmeijgmaa.AM
open Go Go.Proofs
set_option maxRecDepth 100000
def nCheck : Ent := ⟨31, [fmt], tO [I 0, I 0]⟩
theorem eCheck : EntOk Try.prog nCheck := entF (l := ([] : List Ent)) (fun _ h => by cases h) (by kernel_rfl)
def TCheck : List Ent := nCheck :: ([] : List Ent)
theorem tCheck : ∀ x ∈ TCheck, EntOk Try.prog x := tcons eCheck (fun _ h => by cases h)
def nSum0 : Ent := ⟨19, [nil0], I 65535⟩
theorem eSum0 : EntOk Try.prog nSum0 := entF (l := TCheck) tCheck (by kernel_rfl)
def TSum0 : List Ent := nSum0 :: TCheck
theorem tSum0 : ∀ x ∈ TSum0, EntOk Try.prog x := tcons eSum0 tCheck
def nSum1 : Ent := ⟨19, [By [65]], I 47381⟩
theorem eSum1 : EntOk Try.prog nSum1 := entF (l := TSum0) tSum0 (by kernel_rfl)
def TSum1 : List Ent := nSum1 :: TSum0
theorem tSum1 : ∀ x ∈ TSum1, EntOk Try.prog x := tcons eSum1 tSum0
def nSumA : Ent := ⟨19, [By [65, 0, 0, 0]], I 40168⟩
theorem eSumA : EntOk Try.prog nSumA := entF (l := TSum1) tSum1 (by kernel_rfl)
def TSumA : List Ent := nSumA :: TSum1
theorem tSumA : ∀ x ∈ TSumA, EntOk Try.prog x := tcons eSumA tSum1
def nSumB : Ent := ⟨19, [By [65, 1, 1, 2]], I 47275⟩
theorem eSumB : EntOk Try.prog nSumB := entF (l := TSumA) tSumA (by kernel_rfl)
def TSumB : List Ent := nSumB :: TSumA
theorem tSumB : ∀ x ∈ TSumB, EntOk Try.prog x := tcons eSumB tSumA
def nSumC : Ent := ⟨19, [By [65, 1, 0, 0]], I 43992⟩
theorem eSumC : EntOk Try.prog nSumC := entF (l := TSumB) tSumB (by kernel_rfl)
def TSumC : List Ent := nSumC :: TSumB
theorem tSumC : ∀ x ∈ TSumC, EntOk Try.prog x := tcons eSumC tSumB
def nSumD : Ent := ⟨19, [By [49, 50, 51, 52, 53, 54, 55, 56, 57]], I 10673⟩
theorem eSumD : EntOk Try.prog nSumD := entF (l := TSumC) tSumC (by kernel_rfl)
def TSumD : List Ent := nSumD :: TSumC
theorem tSumD : ∀ x ∈ TSumD, EntOk Try.prog x := tcons eSumD tSumC
def nCommA : Ent := ⟨23, [fmt, I 0, ints [7, 258]], tO [ints [7]]⟩
theorem eCommA : EntOk Try.prog nCommA := entF (l := TSumD) tSumD (by kernel_rfl)
def TCommA : List Ent := nCommA :: TSumD
theorem tCommA : ∀ x ∈ TCommA, EntOk Try.prog x := tcons eCommA tSumD
def nCommB : Ent := ⟨23, [fmt, I 1, ints [7, 258]], tO [ints [258]]⟩
theorem eCommB : EntOk Try.prog nCommB := entF (l := TCommA) tCommA (by kernel_rfl)
def TCommB : List Ent := nCommB :: TCommA
theorem tCommB : ∀ x ∈ TCommB, EntOk Try.prog x := tcons eCommB tCommA
def nEncA : Ent := ⟨15, [fmt, I 0, ints [0]], tO [By firstC]⟩
theorem eEncA : EntOk Try.prog nEncA := entF (l := TCommB) tCommB (by kernel_rfl)
def TEncA : List Ent := nEncA :: TCommB
theorem tEncA : ∀ x ∈ TEncA, EntOk Try.prog x := tcons eEncA tCommB
def nEncB : Ent := ⟨15, [fmt, I 1, ints [258]], tO [By secondC]⟩
theorem eEncB : EntOk Try.prog nEncB := entF (l := TEncA) tEncA (by kernel_rfl)
def TEncB : List Ent := nEncB :: TEncA
theorem tEncB : ∀ x ∈ TEncB, EntOk Try.prog x := tcons eEncB tEncA
def nEncC : Ent := ⟨15, [fmt, I 257, ints [0]], tO [By thirdC]⟩
theorem eEncC : EntOk Try.prog nEncC := entF (l := TEncB) tEncB (by kernel_rfl)
def TEncC : List Ent := nEncC :: TEncB
theorem tEncC : ∀ x ∈ TEncC, EntOk Try.prog x := tcons eEncC tEncB
def nDec : Ent := ⟨24, [fmt, By tapeC], tO [.rslc 3 [frC 0 0 0, frC 7 1 258], .rslc 2 [[I 6, I 7]]]⟩
theorem eDec : EntOk Try.prog nDec := entF (l := TEncC) tEncC (by kernel_rfl)
def TDec : List Ent := nDec :: TEncC
theorem tDec : ∀ x ∈ TDec, EntOk Try.prog x := tcons eDec tEncC
def nTapeA : Ent := ⟨40, [fmt, tapeOf tapeC 0], I 0⟩
theorem eTapeA : EntOk Try.prog nTapeA := entF (l := TDec) tDec (by kernel_rfl)
def TTapeA : List Ent := nTapeA :: TDec
theorem tTapeA : ∀ x ∈ TTapeA, EntOk Try.prog x := tcons eTapeA tDec
def nTapeB : Ent := ⟨40, [fmt, tapeOf secondC 0], I 0⟩
theorem eTapeB : EntOk Try.prog nTapeB := entF (l := TTapeA) tTapeA (by kernel_rfl)
def TTapeB : List Ent := nTapeB :: TTapeA
theorem tTapeB : ∀ x ∈ TTapeB, EntOk Try.prog x := tcons eTapeB tTapeA
def nTapeC : Ent := ⟨40, [fmt, tapeOf thirdC 0], I 0⟩
theorem eTapeC : EntOk Try.prog nTapeC := entF (l := TTapeB) tTapeB (by kernel_rfl)
def TTapeC : List Ent := nTapeC :: TTapeB
theorem tTapeC : ∀ x ∈ TTapeC, EntOk Try.prog x := tcons eTapeC tTapeB
def nReadA : Ent := ⟨41, [fmt, tapeOf tapeC 0], tO [.rslc 3 [frC 0 0 0, frC 7 1 258], ints [0, 1]]⟩
theorem eReadA : EntOk Try.prog nReadA := entF (l := TTapeC) tTapeC (by kernel_rfl)
def TReadA : List Ent := nReadA :: TTapeC
theorem tReadA : ∀ x ∈ TReadA, EntOk Try.prog x := tcons eReadA tTapeC
def nReadB : Ent := ⟨41, [fmt, tapeOf secondC 0], tO [.rslc 3 [frC 0 1 258], ints [1]]⟩
theorem eReadB : EntOk Try.prog nReadB := entF (l := TReadA) tReadA (by kernel_rfl)
def TReadB : List Ent := nReadB :: TReadA
theorem tReadB : ∀ x ∈ TReadB, EntOk Try.prog x := tcons eReadB tReadA
def nReadC : Ent := ⟨41, [fmt, tapeOf thirdC 0], tO [.rslc 3 [frC 0 1 0], ints [1]]⟩
theorem eReadC : EntOk Try.prog nReadC := entF (l := TReadB) tReadB (by kernel_rfl)
def TReadC : List Ent := nReadC :: TReadB
theorem tReadC : ∀ x ∈ TReadC, EntOk Try.prog x := tcons eReadC tReadB
def nNumA : Ent := ⟨27, [fmt, tapeOf tapeC 0], tO [ints [0, 1]]⟩
theorem eNumA : EntOk Try.prog nNumA := entF (l := TReadC) tReadC (by kernel_rfl)
def TNumA : List Ent := nNumA :: TReadC
theorem tNumA : ∀ x ∈ TNumA, EntOk Try.prog x := tcons eNumA tReadC
def nNumB : Ent := ⟨27, [fmt, tapeOf tapeC 1], tO [ints [256, 257]]⟩
theorem eNumB : EntOk Try.prog nNumB := entF (l := TNumA) tNumA (by kernel_rfl)
def TNumB : List Ent := nNumB :: TNumA
theorem tNumB : ∀ x ∈ TNumB, EntOk Try.prog x := tcons eNumB tNumA
def nNumC : Ent := ⟨27, [fmt, tapeOf secondC 0], tO [ints [1]]⟩
theorem eNumC : EntOk Try.prog nNumC := entF (l := TNumB) tNumB (by kernel_rfl)
def TNumC : List Ent := nNumC :: TNumB
theorem tNumC : ∀ x ∈ TNumC, EntOk Try.prog x := tcons eNumC tNumB
def nValA : Ent := ⟨28, [fmt, tapeOf tapeC 0, I 0], tO [.rslc 2 [[I 0, I 0]]]⟩
theorem eValA : EntOk Try.prog nValA := entF (l := TNumC) tNumC (by kernel_rfl)
def TValA : List Ent := nValA :: TNumC
theorem tValA : ∀ x ∈ TValA, EntOk Try.prog x := tcons eValA tNumC
def nValB : Ent := ⟨28, [fmt, tapeOf tapeC 0, I 1], tO [.rslc 2 [[I 1, I 258]]]⟩
theorem eValB : EntOk Try.prog nValB := entF (l := TValA) tValA (by kernel_rfl)
def TValB : List Ent := nValB :: TValA
theorem tValB : ∀ x ∈ TValB, EntOk Try.prog x := tcons eValB tValA
end Go.Proofs.Ytmmabdpmeijgmaa.AM
