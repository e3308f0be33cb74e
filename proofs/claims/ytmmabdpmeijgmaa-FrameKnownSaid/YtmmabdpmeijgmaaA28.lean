/- The machine's equations, as one works with them. -/
import Derived.Test.YtmmabdpmeijgmaaA27
namespace Go.Proofs.Ytmmabdpmeijgmaa.AM
open Go

def opsRunL (O : Oracle) (E : Env) (fn : FuncId) (rd : Bool) (ops : Array Oper) : List Oper → FS → Option (Ex × FS)
  | [], s => some (.normal, s)
  | o :: rest, s => match wantedA ops s.tmps o with
      | some true => match opRun O E fn rd o s with
        | some (.next s') => opsRunL O E fn rd ops rest s'
        | some (.pan v s') => some (.panic v, s')
        | none => none
      | some false => if aboutOk E s.tmps o then opsRunL O E fn rd ops rest ⟨setD s.tmps o.dst undefAV, s.H, s.D⟩ else none
      | none => none

section
variable {O : Oracle} {E : Env} {fn : FuncId} {rd : Bool} {ops : Array Oper} {s : FS}

theorem opsRun_eq (ops : Array Oper) (s : FS) : opsRun O E fn rd ops (List.range ops.size) s = opsRunL O E fn rd ops ops.toList s := by
  have key : ∀ (l : List Oper) (k : Nat), (∀ (i : Nat), l[i]? = ops[k + i]?) → k + l.length = ops.size → ∀ s, opsRun O E fn rd ops (List.range' k l.length) s = opsRunL O E fn rd ops l s := by
    intro l
    induction l with
    | nil => intro k _ _ s; rfl
    | cons o l ih =>
      intro k h1 h2 s
      have h0 : ops[k]? = some o := by have := h1 0; simpa using this.symm
      have ih' := ih (k + 1) (fun i => by have := h1 (i + 1); rw [List.getElem?_cons_succ] at this; rw [this]; congr 1; omega) (by simp at h2; omega)
      simp only [List.length_cons, List.range'_succ, opsRun, opsRunL, h0]
      cases wantedA ops s.tmps o with
      | none => rfl
      | some b =>
        cases b with
        | true =>
          simp only []
          cases opRun O E fn rd o s with
          | none => rfl
          | some r => cases r with
            | next s' => exact ih' _
            | pan v s' => rfl
        | false =>
          simp only []
          split
          · exact ih' _
          · rfl
  have := key ops.toList 0 (fun i => by simp) (by simp) s
  rw [← this, List.range_eq_range']
  simp

theorem X_region (id : Nat) (ops : Array Oper) (s : FS) : execC O E fn rd (.region id ops false) s = opsRunL O E fn rd ops ops.toList s := opsRun_eq ops s
theorem X_draw (id : Nat) (ops : Array Oper) (s : FS) : execC O E fn rd (.region id ops true) s = drawX O E fn rd ops s := rfl
theorem X_skip (s : FS) : execC O E fn rd .skip s = some (.normal, s) := rfl
theorem X_label (l : Nat) (s : FS) : execC O E fn rd (.label l) s = some (.normal, s) := rfl
theorem X_exit (id : Nat) (s : FS) : execC O E fn rd (.exit id) s = some (.exit id, s) := rfl
theorem X_scope (b : Code) (s : FS) : execC O E fn rd (.scope b) s = execC O E fn rd b s := rfl
theorem X_ret (s : FS) : execC O E fn rd .ret s = some (.ret, s) := rfl
theorem X_loop (b : Code) (s : FS) : execC O E fn rd (.loop b) s = O.loop fn rd b s := rfl

/-- Behind a code comes another one. -/
def andThen (r : Option (Ex × FS)) (k : FS → Option (Ex × FS)) : Option (Ex × FS) :=
  match r with
  | some (.normal, s1) => k s1
  | r => r
theorem X_seq (x y : Code) (s : FS) : execC O E fn rd (.seq x y) s = andThen (execC O E fn rd x s) (execC O E fn rd y) := rfl
theorem andThen_normal (s : FS) (k : FS → Option (Ex × FS)) : andThen (some (.normal, s)) k = k s := rfl
theorem andThen_exit (i : Nat) (s : FS) (k : FS → Option (Ex × FS)) : andThen (some (.exit i, s)) k = some (.exit i, s) := rfl
theorem andThen_ret (s : FS) (k : FS → Option (Ex × FS)) : andThen (some (.ret, s)) k = some (.ret, s) := rfl
theorem andThen_panic (v : AV) (s : FS) (k : FS → Option (Ex × FS)) : andThen (some (.panic v, s)) k = some (.panic v, s) := rfl
theorem andThen_ite {p : Prop} [Decidable p] (x y : Option (Ex × FS)) (k : FS → Option (Ex × FS)) : andThen (if p then x else y) k = if p then andThen x k else andThen y k := by split <;> rfl

def catchX (id : Nat) (r : Option (Ex × FS)) : Option (Ex × FS) :=
  match r with
  | some (.exit i, s1) => some (if i = id then .normal else .exit i, s1)
  | r => r
theorem X_block (id : Nat) (b : Code) (s : FS) : execC O E fn rd (.block id b) s = catchX id (execC O E fn rd b s) := rfl
theorem catch_normal (id : Nat) (s : FS) : catchX id (some (.normal, s)) = some (.normal, s) := rfl
theorem catch_ret (id : Nat) (s : FS) : catchX id (some (.ret, s)) = some (.ret, s) := rfl
theorem catch_panic (id : Nat) (v : AV) (s : FS) : catchX id (some (.panic v, s)) = some (.panic v, s) := rfl
theorem catch_exit (id i : Nat) (s : FS) : catchX id (some (.exit i, s)) = some (if i = id then .normal else .exit i, s) := rfl
theorem catch_ite {p : Prop} [Decidable p] (id : Nat) (x y : Option (Ex × FS)) : catchX id (if p then x else y) = if p then catchX id x else catchX id y := by split <;> rfl

def condR (c : Option AV) (x y : Option (Ex × FS)) : Option (Ex × FS) :=
  match c with
  | some (.lit (.bool true)) => x
  | some (.lit (.bool false)) => y
  | _ => none
theorem X_cond (c : Operand) (x y : Code) (s : FS) : execC O E fn rd (.cond c x y) s = condR (evT s.tmps c) (execC O E fn rd x s) (execC O E fn rd y s) := rfl
theorem condR_bool (b : Bool) (x y : Option (Ex × FS)) : condR (some (.lit (.bool b))) x y = if b = true then x else y := by cases b <;> rfl

theorem L_nil (s : FS) : opsRunL O E fn rd ops [] s = some (.normal, s) := rfl

/-- What a region does with an operation that is always wanted. -/
def stepR (O : Oracle) (E : Env) (fn : FuncId) (rd : Bool) (ops : Array Oper) (rest : List Oper) (r : Option OpR) : Option (Ex × FS) :=
  match r with
  | some (.next s') => opsRunL O E fn rd ops rest s'
  | some (.pan v s') => some (.panic v, s')
  | none => none
theorem R_next (rest : List Oper) (s : FS) : stepR O E fn rd ops rest (some (.next s)) = opsRunL O E fn rd ops rest s := rfl
theorem R_pan (rest : List Oper) (v : AV) (s : FS) : stepR O E fn rd ops rest (some (.pan v s)) = some (.panic v, s) := rfl

theorem L_op (dst : Option Nat) (op : Op) (ty : TypeId) (pos : String) (after : Array Edge) (rest : List Oper) (s : FS) :
    opsRunL O E fn rd ops ({ dst, op, type := ty, pos, after, guard := none } :: rest) s = stepR O E fn rd ops rest (opRun O E fn rd { dst, op, type := ty, pos, after, guard := none } s) := rfl

def guardR (b : Option AV) (want : Bool) (x y : Option (Ex × FS)) : Option (Ex × FS) :=
  match b with
  | some (.lit (.bool b)) => if b = want then x else y
  | some (.lit (.tuple _)) => y
  | _ => none
theorem guardR_bool (b want : Bool) (x y : Option (Ex × FS)) : guardR (some (.lit (.bool b))) want x y = if b = want then x else y := rfl
theorem guardR_undef (want : Bool) (x y : Option (Ex × FS)) : guardR (some (.lit undef)) want x y = y := rfl

def skipR (O : Oracle) (E : Env) (fn : FuncId) (rd : Bool) (ops : Array Oper) (rest : List Oper) (ok : Bool) (s : FS) : Option (Ex × FS) :=
  if ok then opsRunL O E fn rd ops rest s else none
theorem skipR_true (rest : List Oper) (s : FS) : skipR O E fn rd ops rest true s = opsRunL O E fn rd ops rest s := rfl

theorem L_guard (dst : Option Nat) (op : Op) (ty : TypeId) (pos : String) (after : Array Edge) (j : Nat) (want : Bool) (rest : List Oper) (s : FS) :
    opsRunL O E fn rd ops ({ dst, op, type := ty, pos, after, guard := some (j, want) } :: rest) s =
      match (ops[j]?).bind (·.dst) with
      | none => skipR O E fn rd ops rest (aboutOk E s.tmps { dst, op, type := ty, pos, after, guard := some (j, want) }) ⟨setD s.tmps dst undefAV, s.H, s.D⟩
      | some d => guardR (evT s.tmps (.tmp d)) want (stepR O E fn rd ops rest (opRun O E fn rd { dst, op, type := ty, pos, after, guard := some (j, want) } s))
        (skipR O E fn rd ops rest (aboutOk E s.tmps { dst, op, type := ty, pos, after, guard := some (j, want) }) ⟨setD s.tmps dst undefAV, s.H, s.D⟩) := by
  simp only [opsRunL, wantedA]
  cases (ops[j]?).bind (·.dst) with
  | none => rfl
  | some d =>
    simp only []
    cases h : evT s.tmps (.tmp d) with
    | none => rfl
    | some v =>
      cases v with
      | lit v => cases v with
        | bool b => cases b <;> cases want <;> rfl
        | tuple _ => rfl
        | _ => rfl
      | _ => rfl

/-- A value goes into a slot. -/
def valR (dst : Option Nat) (v : Option AV) (s : FS) : Option OpR := v.map fun v => .next ⟨setD s.tmps dst v, s.H, s.D⟩
theorem valR_some (dst : Option Nat) (v : AV) (s : FS) : valR dst (some v) s = some (.next ⟨setD s.tmps dst v, s.H, s.D⟩) := rfl
theorem setD_some (tmps : List AV) (d : Nat) (v : AV) : setD tmps (some d) v = tmps.set d v := rfl
theorem setD_none (tmps : List AV) (v : AV) : setD tmps none v = tmps := rfl

variable {dst : Option Nat} {ty : TypeId} {pos : String} {after : Array Edge} {guard : Option (Nat × Bool)}
theorem op_move (x : Operand) (s : FS) : opRun O E fn rd { dst, op := .move x, type := ty, pos, after, guard } s = valR dst (evT s.tmps x) s := by
  simp only [opRun, opGen, aop]
  cases evT s.tmps x <;> rfl
theorem op_assign (x : Operand) (s : FS) : opRun O E fn rd { dst, op := .assign x, type := ty, pos, after, guard } s = valR dst (evT s.tmps x) s := by
  simp only [opRun, opGen, aop]
  cases evT s.tmps x <;> rfl
def pickR (c : Option AV) (x y : Option AV) : Option AV :=
  match c with
  | some (.lit (.bool true)) => x
  | some (.lit (.bool false)) => y
  | _ => none
theorem pickR_bool (b : Bool) (x y : Option AV) : pickR (some (.lit (.bool b))) x y = if b = true then x else y := by cases b <;> rfl
theorem op_pick (c a b : Operand) (s : FS) : opRun O E fn rd { dst, op := .pick c a b, type := ty, pos, after, guard } s = valR dst (pickR (evT s.tmps c) (evT s.tmps a) (evT s.tmps b)) s := by
  simp only [opRun, opGen, aop]
  cases h : evT s.tmps c with
  | none => rfl
  | some v =>
    cases v with
    | lit v => cases v with
      | bool t =>
        cases t
        · cases evT s.tmps b <;> rfl
        · cases evT s.tmps a <;> rfl
      | _ => rfl
    | _ => rfl
theorem op_binOp (op : BinOp) (t : TypeId) (x y : Operand) (t' : TypeId) (s : FS) :
    opRun O E fn rd { dst, op := .binOp op t x y t', type := ty, pos, after, guard } s = valR dst ((evT s.tmps x).bind fun a => (evT s.tmps y).bind fun b => (aBinM E.ti (mOf s.tmps s.H) t op a b).map Eff.v) s := by
  simp only [opRun, opGen, aop]
  cases evT s.tmps x with
  | none => rfl
  | some a => cases evT s.tmps y with
    | none => rfl
    | some b =>
      cases h : aBinM E.ti (mOf s.tmps s.H) t op a b with
      | none => simp [h, valR]
      | some e =>
        have he : ∃ v rd, e = .val v rd := by
          unfold aBinM at h
          split at h
          · rename_i e' hn
            cases h
            unfold aNilEq at hn
            repeat' split at hn
            all_goals first | (cases hn; done) | (cases hn; exact ⟨_, _, rfl⟩)
          · simp only [Option.map_eq_some_iff] at h
            obtain ⟨v, _, rfl⟩ := h
            exact ⟨_, _, rfl⟩
        obtain ⟨v, rd, rfl⟩ := he
        simp [h, valR, putE, Eff.v]
theorem op_unOp (op : UnOp) (t : TypeId) (x : Operand) (s : FS) :
    opRun O E fn rd { dst, op := .unOp op t x, type := ty, pos, after, guard } s = valR dst ((evT s.tmps x).bind fun a => (aUn op a).map .lit) s := by
  simp only [opRun, opGen, aop]
  cases evT s.tmps x with
  | none => rfl
  | some a => cases h : aUn op a <;> simp [h, valR, putE]
theorem op_fieldAddr (t : TypeId) (x : Operand) (f : Nat) (s : FS) :
    opRun O E fn rd { dst, op := .fieldAddr t x f, type := ty, pos, after, guard } s = valR dst ((evA s.tmps x).bind fun a => aFieldAddr E.ti (mOf s.tmps s.H) t a f) s := by
  simp only [opRun, opGen, aop]
  cases evA s.tmps x with
  | none => rfl
  | some a => cases h : aFieldAddr E.ti (mOf s.tmps s.H) t a f <;> simp [h, valR, putE]
theorem op_field (t : TypeId) (x : Operand) (f : Nat) (s : FS) :
    opRun O E fn rd { dst, op := .field t x f, type := ty, pos, after, guard } s = valR dst ((evT s.tmps x).bind fun a => aField E.ti t a f) s := by
  simp only [opRun, opGen, aop]
  cases evT s.tmps x with
  | none => rfl
  | some a => cases h : aField E.ti t a f <;> simp [h, valR, putE]
theorem op_extract (x : Operand) (i : Nat) (s : FS) : opRun O E fn rd { dst, op := .extract x i, type := ty, pos, after, guard } s = valR dst ((evT s.tmps x).bind fun a => aExtract a i) s := by
  simp only [opRun, opGen, aop]
  cases evT s.tmps x with
  | none => rfl
  | some a => cases h : aExtract a i <;> simp [h, valR, putE]
theorem op_load (t : TypeId) (x : Operand) (s : FS) :
    opRun O E fn rd { dst, op := .load t x, type := ty, pos, after, guard } s = valR dst ((evA s.tmps x).bind fun a => (aLoad E.ti (mOf s.tmps s.H) t a).map Eff.v) s := by
  simp only [opRun, opGen, aop]
  cases evA s.tmps x with
  | none => rfl
  | some a =>
    cases h : aLoad E.ti (mOf s.tmps s.H) t a with
    | none => simp [h, valR]
    | some e =>
      have h' := h
      unfold aLoad at h'
      simp only [Option.bind_eq_bind, Option.bind_eq_some_iff, Prod.exists] at h'
      obtain ⟨_, _, _, _, _, _, _, _, _, h'⟩ := h'
      cases h'
      simp [h, valR, putE, Eff.v]
theorem op_indexAddrS (t : TypeId) (x ix : Operand) (s : FS) (ha : arrOf E.ti t = none) :
    opRun O E fn rd { dst, op := .indexAddr t x ix, type := ty, pos, after, guard } s = valR dst ((evT s.tmps x).bind fun a => (evT s.tmps ix).bind fun b => aIndexSl E.ti (mOf s.tmps s.H) t a b) s := by
  simp only [opRun, opGen, aop, ha]
  cases evT s.tmps x with
  | none => rfl
  | some a => cases evT s.tmps ix with
    | none => rfl
    | some b => cases h : aIndexSl E.ti (mOf s.tmps s.H) t a b <;> simp [h, valR, putE]

/-- A general operation: its effect, put into the state. -/
def effR (e : Option Eff) (dst : Option Nat) (s : FS) : Option OpR :=
  e.bind fun e => (putE e s.H.length dst s.tmps s.H).map fun p => .next ⟨p.1, p.2, s.D⟩
theorem op_box (t : TypeId) (x : Operand) (s : FS) : opRun O E fn rd { dst, op := .box t x, type := ty, pos, after, guard } s =
    effR ((evT s.tmps x).bind fun a => aBox (lcOf (E.loc fn) { dst, op := .box t x, type := ty, pos, after, guard }) s.H.length a) dst s := by
  simp only [opRun, opGen, aop, effR]
  cases evT s.tmps x with
  | none => rfl
  | some a =>
    simp only [Option.bind_eq_bind, Option.bind_some]
    cases aBox (lcOf (E.loc fn) { dst, op := .box t x, type := ty, pos, after, guard }) s.H.length a with
    | none => rfl
    | some e => simp only [Option.bind_some]; cases putE e s.H.length dst s.tmps s.H <;> rfl
theorem op_alloc (t : TypeId) (s : FS) : opRun O E fn rd { dst, op := .alloc t, type := ty, pos, after, guard } s =
    effR (aAlloc E.ti (lcOf (E.loc fn) { dst, op := .alloc t, type := ty, pos, after, guard }) s.H.length t) dst s := by
  simp only [opRun, opGen, aop, effR]
  cases aAlloc E.ti (lcOf (E.loc fn) { dst, op := .alloc t, type := ty, pos, after, guard }) s.H.length t with
  | none => rfl
  | some e => simp only [Option.bind_eq_bind, Option.bind_some]; cases putE e s.H.length dst s.tmps s.H <;> rfl
theorem op_store (t : TypeId) (x y : Operand) (s : FS) : opRun O E fn rd { dst, op := .store t x y, type := ty, pos, after, guard } s =
    effR ((evA s.tmps x).bind fun a => (evT s.tmps y).bind fun b => aStore E.ti (mOf s.tmps s.H) t a b) dst s := by
  simp only [opRun, opGen, aop, effR]
  cases evA s.tmps x with
  | none => rfl
  | some a => cases evT s.tmps y with
    | none => rfl
    | some b =>
      simp only [Option.bind_eq_bind, Option.bind_some]
      cases aStore E.ti (mOf s.tmps s.H) t a b with
      | none => rfl
      | some e => simp only [Option.bind_some]; cases putE e s.H.length dst s.tmps s.H <;> rfl
end
end Go.Proofs.Ytmmabdpmeijgmaa.AM
