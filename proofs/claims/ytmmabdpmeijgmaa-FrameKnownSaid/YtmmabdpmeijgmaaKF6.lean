/- The examples of the frames: Merge: the call of it on the examples' tapes returns the examples' reports, whatever order its map is ranged over in. -/
import Derived.Test.YtmmabdpmeijgmaaKF2
import Derived.Test.YtmmabdpmeijgmaaA41
namespace Go.Proofs.Ytmmabdpmeijgmaa.AM
open Go Go.Proofs
set_option maxRecDepth 100000
def sq1 : Code → Code
  | .seq a _ => a
  | c => c
def sq2 : Code → Code
  | .seq _ a => a
  | c => c
def opsOf : Code → Array Oper
  | .region _ ops _ => ops
  | _ => #[]
def idOfR : Code → Nat
  | .region i _ _ => i
  | .block i _ => i
  | .exit i => i
  | _ => 0
def blk : Code → Code
  | .block _ b => b
  | c => c
def lop : Code → Code
  | .loop b => b
  | c => c
def cnd : Code → Operand
  | .cond c _ _ => c
  | _ => .const undef
def els : Code → Code
  | .cond _ _ c => c
  | c => c
noncomputable def bM : Code := Try.f11.body.get!
noncomputable def OF : Oracle := run (orcL (nOf TReadC)) EF (fnsOf Try.prog) 60
noncomputable def lM : List Code := [sq1 bM, sq1 (sq2 bM), sq1 (sq2 (sq2 bM)), sq1 (sq2 (sq2 (sq2 bM))), sq1 (sq2 (sq2 (sq2 (sq2 bM))))]
noncomputable def cF : Code := sq1 (sq2 (sq2 (sq2 (sq2 (sq2 bM)))))
noncomputable def yM : Code := sq2 (sq2 (sq2 (sq2 (sq2 (sq2 bM)))))
noncomputable def bb : Code := lop (blk (sq2 cF))
def aM : List AV := [fmt, .rslc 2 [[By tapeC, I 0], [By secondC, I 0], [By thirdC, I 0]]]
noncomputable def sA : Option FS := runL OF EF 11 false lM ⟨aM ++ List.replicate (136 - 2) undefAV, [], []⟩
noncomputable def opN (c : Code) (i : Nat) : Oper := (opsOf c)[i]!
noncomputable def fB : MapBody bb 81 where
  i1 := 25
  i2 := 26
  x := 4
  y := 5
  d1 := 82
  d2 := 84
  c := .tmp 83
  ops1 := opsOf (sq1 bb)
  ops2 := opsOf (sq1 (blk (sq2 (sq2 bb))))
  l1 := [1]
  l2 := [1, 2, 3, 4, 5]
  rest := sq2 (blk (sq2 (sq2 bb)))
  o1 := opN (sq1 bb) 0
  o2 := opN (sq1 (blk (sq2 (sq2 bb)))) 0
  is := by kernel_rfl
  r1 := by kernel_rfl
  r2 := by kernel_rfl
  g1 := by kernel_rfl
  g2 := by kernel_rfl
  p1 := by kernel_rfl
  p2 := by kernel_rfl
  t1 := by kernel_rfl
  t2 := by kernel_rfl
  n1 := by decide
  n2 := by decide
  u1 := by kernel_rfl
  u2 := by kernel_rfl
noncomputable def fM : MapFor bb 81 where
  i0 := 24
  ops := opsOf (sq1 cF)
  oa := opN (sq1 cF) 0
  ob := opN (sq1 cF) 1
  t := 116
  x := .tmp 80
  body := fB
  hl := by kernel_rfl
  ha := by kernel_rfl
  hb := by kernel_rfl
  ga := by kernel_rfl
  gb := by kernel_rfl
  hop := by kernel_rfl
  hdst := by kernel_rfl
theorem bodyM : Try.f11.body = some (spine lM (.seq (.seq (.region fM.i0 fM.ops false) (.block fM.body.x (.loop bb))) yM)) := by kernel_rfl
/-- The state behind the first operation of the region in which the map is ranged over. -/
noncomputable def s1M : Option FS := match sA with
  | some s => match opRun OF EF 11 false fM.oa s with
    | some (.next s1) => some s1
    | _ => none
  | none => none
def gtS (s : Option FS) : FS := match s with
  | some s => s
  | none => ⟨[], [], []⟩
noncomputable def esM : List Ent3 := match mapOf 1 (gtS s1M) with
  | some (es, _) => es
  | _ => []
noncomputable def sM (r : Nat) : FS := ⟨setD (gtS s1M).tmps (some 81) (.lit (.pointer (some ⟨r, 0, none⟩))), (gtS s1M).H, (gtS s1M).D⟩
noncomputable def fiM : FS → Option (AV × List AObj) := finC OF EF (fnsOf Try.prog) 11 Try.f11 false yM
noncomputable def vis (i r : Nat) : Option (Seen (AV × List AObj)) := visitE OF EF 11 false fB 1 fiM 3 esM (esM.getD i (.dead, .dead, 0)) (sM r)
/-- What Merge hands back. -/
def vM : AV := .tup [.slc 0 0 2 5 15, I 0]
def hM : List AObj := [.cells [I 0, I 0, I 1, Bo false, .slc 1 0 1 1 1, I 1, I 0, I 2, Bo true, .slc 2 0 1 1 1, I 0, I 0, I 0, Bo false, nil0], .cells [I 0], .cells [I 258]]
noncomputable def okS (r : Nat) : Seen (AV × List AObj) := ⟨List.replicate 15 r, List.replicate 15 (esM, 3), [(vM, hM), (vM, hM)]⟩
end Go.Proofs.Ytmmabdpmeijgmaa.AM
