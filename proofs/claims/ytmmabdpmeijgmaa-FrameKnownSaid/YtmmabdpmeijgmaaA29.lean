/- More equations: effects, addresses, calls. -/
import Derived.Test.YtmmabdpmeijgmaaA28
namespace Go.Proofs.Ytmmabdpmeijgmaa.AM
open Go

def leaveX (E : Env) (fns : FuncId → Option Func) (rs : List ResultVar) (r : Option (Ex × FS)) : Option CR :=
  match r with
  | some (.normal, s1) => leaveD E fns rs s1.tmps s1.H s1.D .ret
  | some (.ret, s1) => leaveD E fns rs s1.tmps s1.H s1.D .ret
  | some (.panic v, s1) => leaveD E fns rs s1.tmps s1.H s1.D (.pan v)
  | _ => none
theorem leave_normal (E : Env) (fns : FuncId → Option Func) (rs : List ResultVar) (s : FS) : leaveX E fns rs (some (.normal, s)) = leaveD E fns rs s.tmps s.H s.D .ret := rfl
theorem leave_ret (E : Env) (fns : FuncId → Option Func) (rs : List ResultVar) (s : FS) : leaveX E fns rs (some (.ret, s)) = leaveD E fns rs s.tmps s.H s.D .ret := rfl
theorem leave_pan (E : Env) (fns : FuncId → Option Func) (rs : List ResultVar) (v : AV) (s : FS) : leaveX E fns rs (some (.panic v, s)) = leaveD E fns rs s.tmps s.H s.D (.pan v) := rfl
theorem leave_ite {p : Prop} [Decidable p] (E : Env) (fns : FuncId → Option Func) (rs : List ResultVar) (x y : Option (Ex × FS)) : leaveX E fns rs (if p then x else y) = if p then leaveX E fns rs x else leaveX E fns rs y := by split <;> rfl
theorem leaveD_ret (E : Env) (fns : FuncId → Option Func) (rs : List ResultVar) (tmps : List AV) (H : List AObj) : leaveD E fns rs tmps H [] .ret = (rs.mapM (resVar E.ti tmps H)).map fun vs => .ret (packA vs) H := rfl
theorem leaveD_mark (E : Env) (fns : FuncId → Option Func) (rs : List ResultVar) (tmps : List AV) (H : List AObj) (D : List ADef) (m : LM) : leaveD E fns rs tmps H (.mark :: D) m = leaveD E fns rs tmps H D m := by cases m <;> rfl
theorem leaveD_pan (E : Env) (fns : FuncId → Option Func) (rs : List ResultVar) (tmps : List AV) (H : List AObj) (v : AV) : leaveD E fns rs tmps H [] (.pan v) = some (.pan v H) := rfl

/-- The call of a function of the program. -/
theorem call_of {P : Program} {opn : FuncId → Bool} {loc : FuncId → Nat → Bool} {adp : FuncId → Bool} {f : FuncId} {fn : Func} {body : Code} (h1 : P.funcs[f]? = some fn) (h2 : fn.body = some body) (h3 : (fn.name == "runtime.NumGoroutine") = false) (args : List AV) (H : List AObj) :
    (M noOrc (envOf P opn loc adp) (fnsOf P)).call f args H = leaveX (envOf P opn loc adp) (fnsOf P) fn.results.toList (execC (M noOrc (envOf P opn loc adp) (fnsOf P)) (envOf P opn loc adp) f false body ⟨args ++ List.replicate (fn.ntmps - args.length) undefAV, H, []⟩) := by
  rw [M_call_eq]
  simp only [step1, noOrc, callF, fnsOf, h1, h2, h3, Option.isSome_some, Bool.not_false, Bool.and_self, if_true]
  rfl

theorem loop_of {P : Program} {opn : FuncId → Bool} {loc : FuncId → Nat → Bool} {adp : FuncId → Bool} (fn : FuncId) (rd : Bool) (b : Code) (s : FS) :
    (M noOrc (envOf P opn loc adp) (fnsOf P)).loop fn rd b s = andThen (execC (M noOrc (envOf P opn loc adp) (fnsOf P)) (envOf P opn loc adp) fn rd b s) ((M noOrc (envOf P opn loc adp) (fnsOf P)).loop fn rd b) := by
  rw [M_loop_eq]
  rfl

section
variable {O : Oracle} {E : Env} {fn : FuncId} {rd : Bool} {ops : Array Oper} {s : FS} {ti : TI} {m : Loc → AObj}

theorem eff_val (v : AV) (l : List Loc) (dst : Option Nat) (s : FS) : effR (some (.val v l)) dst s = some (.next ⟨setD s.tmps dst v, s.H, s.D⟩) := rfl
theorem eff_nw (v : AV) (l : List Loc) (o : AObj) (dst : Option Nat) (s : FS) : effR (some (.nw v l o)) dst s = some (.next ⟨setD s.tmps dst v, s.H ++ [o], s.D⟩) := by
  simp [effR, putE, setB]
theorem eff_wr (v : AV) (l : List Loc) (id : Nat) (o : AObj) (dst : Option Nat) (s : FS) : effR (some (.wr v l (.blk id) o)) dst s = if id < s.H.length then some (.next ⟨setD s.tmps dst v, s.H.set id o, s.D⟩) else none := by
  simp only [effR, putE, Option.bind_some]
  split <;> rfl

theorem lc_false (o : Oper) : lcOf (fun _ => false) o = false := by unfold lcOf; cases o.dst <;> rfl
theorem box_out (k : Nat) (x : AV) (cs : List AV) (h : cellsIn x = some cs) : aBox false k x = some (.nw (.ptr k 0 cs.length) [] (.cells cs)) := by simp [aBox, h]

/-- Where a field lies. -/
def fo (ti : TI) (t : TypeId) (f : Nat) : Option Nat := (fieldOf ti t f).bind fun fd => (ti.sz fd.type).bind fun n => if n = 0 then none else some fd.offset
theorem fieldAddr_eq (t : TypeId) (a : AV) (f : Nat) : aFieldAddr ti m t a f = (fo ti t f).bind fun o => if alive m a = true then a.shift o else none := by
  unfold aFieldAddr fo
  cases fieldOf ti t f with
  | none => rfl
  | some fd =>
    simp only [Option.bind_eq_bind, Option.bind_some]
    cases ti.sz fd.type with
    | none => rfl
    | some n =>
      simp only [Option.bind_some]
      by_cases hn : n = 0
      · simp [hn]
      · cases ha : alive m a <;> simp [hn, ha]
theorem alive_rptr (cs : List AV) : alive m (.rptr cs) = true := rfl
theorem alive_ptr (id off st : Nat) : alive m (.ptr id off st) = ((m (.blk id)).stamp == some st) := rfl
theorem shift_ptr (id off st n : Nat) : (AV.ptr id off st).shift n = some (.ptr id (off + n) st) := rfl
theorem shift_rptr (cs : List AV) (n : Nat) : (AV.rptr cs).shift n = if n ≤ cs.length then some (.rptr (cs.drop n)) else none := rfl

/-- How a variable of a type is read. -/
def ld (ti : TI) (t : TypeId) : Option (Bool × Nat) := (ti.agg t).bind fun g => (ti.sz t).map fun n => (g, n)
theorem load_eq (t : TypeId) (a : AV) : (aLoad ti m t a).map Eff.v = (ld ti t).bind fun p => (cellsAt m a p.2).bind fun c => valOf p.1 c.1 := by
  unfold aLoad ld
  cases ti.agg t with
  | none => rfl
  | some g =>
    simp only [Option.bind_eq_bind, Option.bind_some]
    cases ti.sz t with
    | none => rfl
    | some n =>
      simp only [Option.bind_some, Option.map_some]
      cases cellsAt m a n with
      | none => rfl
      | some c =>
        simp only [Option.bind_some]
        cases valOf g c.1 <;> rfl
theorem cells_rptr (cs : List AV) (n : Nat) : cellsAt m (.rptr cs) n = if n ≤ cs.length then some (cs.take n, []) else none := rfl
theorem cells_ptr (id off st n : Nat) (cs : List AV) (h : m (.blk id) = .cells cs) (h1 : cs.length = st) (h2 : off + n ≤ st) : cellsAt m (.ptr id off st) n = some ((cs.drop off).take n, [.blk id]) := by
  simp only [cellsAt, h]
  rw [if_pos ⟨h1, by omega⟩]
theorem m_blk_eq (tmps : List AV) (H : List AObj) (id : Nat) : mOf tmps H (.blk id) = H.getD id .dead := rfl

def esz (ti : TI) (t : TypeId) : Option Nat := (elemOf ti t).bind ti.sz
theorem index_rslc (t : TypeId) (n : Nat) (es : List (List AV)) (ix : AV) : aIndexSl ti m t (.rslc n es) ix = (esz ti t).bind fun k => ix.num.bind fun i => if 0 ≤ i ∧ n = k then (es[i.toNat]?).map .rptr else none := by
  unfold aIndexSl esz
  cases elemOf ti t with
  | none => rfl
  | some e =>
    simp only [Option.bind_eq_bind, Option.bind_some]
theorem num_int (k : IntKind) (n : Int) : (AV.lit (.int k n)).num = some n := rfl

/-! ### calls -/
variable {dst : Option Nat} {ty : TypeId} {pos : String} {after : Array Edge} {guard : Option (Nat × Bool)}
theorem op_call (f : FuncId) (args : Array Operand) (tys : Array TypeId) (s : FS) : opRun O E fn rd { dst, op := .call { callee := .value (.func f), args, argTypes := tys }, type := ty, pos, after, guard } s =
    (evs s.tmps args).bind fun as => callRun O E dst f as s := by
  simp only [opRun, evT]
  cases evs s.tmps args with
  | none => rfl
  | some as => simp
theorem op_callV (t : Nat) (args : Array Operand) (tys : Array TypeId) (s : FS) {f : FuncId} {xs ys : List AV} (h : evT s.tmps (.tmp t) = some (.fn (.func f) xs ys)) :
    opRun O E fn rd { dst, op := .call { callee := .value (.tmp t), args, argTypes := tys }, type := ty, pos, after, guard } s = (evs s.tmps args).bind fun as => callRun O E dst f (xs ++ as ++ ys) s := by
  simp only [opRun, h]
  rfl
theorem evs_nil (tmps : List AV) : evs tmps #[] = some [] := rfl
theorem evs_list (tmps : List AV) (l : List Operand) : evs tmps l.toArray = l.mapM (evT tmps) := rfl
theorem op_builtin (b : Builtin) (args : Array Operand) (tys : Array TypeId) (s : FS) : opRun O E fn rd { dst, op := .call { callee := .builtin b, args, argTypes := tys }, type := ty, pos, after, guard } s =
    effR ((evs s.tmps args).bind fun xs => aBuiltin E.ti (mOf s.tmps s.H) s.H.length b tys xs) dst s := by
  simp only [opRun, opGen, aop, effR]
  cases evs s.tmps args with
  | none => rfl
  | some xs =>
    simp only [Option.bind_eq_bind, Option.bind_some]
    cases aBuiltin E.ti (mOf s.tmps s.H) s.H.length b tys xs with
    | none => rfl
    | some e => simp only [Option.bind_some]; cases putE e s.H.length dst s.tmps s.H <;> rfl

/-- What a function hands back to frozen arguments. -/
def PC (O : Oracle) (f : FuncId) (args : List AV) (v : AV) : Prop := ∃ u H' l, O.call f args [] = some (.ret u H') ∧ frz 20 (mOf [] H') u = some (v, l)

theorem call_pure {f : FuncId} {args fargs : List AV} {v : AV} (ho : E.opn f = false) (ha : E.adp f = false) (hf : frzL (frz 20 (mOf s.tmps s.H)) args = some (fargs, [])) (hp : PC O f fargs v) (dst : Option Nat) :
    callRun O E dst f args s = some (.next ⟨setD s.tmps dst v, s.H, s.D⟩) := by
  obtain ⟨u, H', l, h1, h2⟩ := hp
  simp [callRun, ho, ha, hf, h1, h2]
theorem call_sc {f : FuncId} {args fargs : List AV} {l : List Loc} {v : AV} (ho : E.opn f = false) (ha : E.adp f = false) (hf : frzL (frz 20 (mOf s.tmps s.H)) args = some (fargs, l)) (hp : PC O f fargs v) (hv : isSc v = true) (dst : Option Nat) :
    callRun O E dst f args s = some (.next ⟨setD s.tmps dst v, s.H, s.D⟩) := by
  obtain ⟨u, H', l', h1, h2⟩ := hp
  simp [callRun, ho, ha, hf, h1, h2, hv]
theorem frzL_nil (F : AV → Option (AV × List Loc)) : frzL F [] = some ([], []) := rfl
theorem frzL_cons (F : AV → Option (AV × List Loc)) (c : AV) (cs : List AV) : frzL F (c :: cs) = (F c).bind fun p => (frzL F cs).map fun q => (p.1 :: q.1, p.2 ++ q.2) := by
  simp only [frzL]
  cases F c with
  | none => rfl
  | some p => cases frzL F cs <;> rfl
theorem frz_lit (n : Nat) (v : Value) : frz (n + 1) m (.lit v) = some (.lit v, []) := rfl
theorem frz_rslc (n k : Nat) (es : List (List AV)) : frz (n + 1) m (.rslc k es) = some (.rslc k es, []) := rfl
theorem frz_rptr (n : Nat) (cs : List AV) : frz (n + 1) m (.rptr cs) = some (.rptr cs, []) := rfl
theorem frz_z0 (n : Nat) : frz (n + 1) m .z0 = some (.z0, []) := rfl
theorem frz_agg (n : Nat) (cs : List AV) : frz (n + 1) m (.agg cs) = (frzL (frz n m) cs).map fun p => (.agg p.1, p.2) := by
  simp only [frz, frzStep]
  cases frzL (frz n m) cs <;> rfl
theorem frz_tup (n : Nat) (cs : List AV) : frz (n + 1) m (.tup cs) = (frzL (frz n m) cs).map fun p => (.tup p.1, p.2) := by
  simp only [frz, frzStep]
  cases frzL (frz n m) cs <;> rfl
theorem frz_fn (n : Nat) (f : Fn) (xs ys : List AV) : frz (n + 1) m (.fn f xs ys) = (frzL (frz n m) xs).bind fun p => (frzL (frz n m) ys).map fun q => (.fn f p.1 q.1, p.2 ++ q.2) := by
  simp only [frz, frzStep]
  cases frzL (frz n m) xs with
  | none => rfl
  | some p => cases frzL (frz n m) ys <;> rfl
end
end Go.Proofs.Ytmmabdpmeijgmaa.AM
