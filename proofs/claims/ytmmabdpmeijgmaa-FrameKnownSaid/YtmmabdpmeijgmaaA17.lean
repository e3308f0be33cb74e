/- The state of a frame and one operation. -/
import Derived.Test.YtmmabdpmeijgmaaA16
namespace Go.Proofs.Ytmmabdpmeijgmaa.AM
open Go

inductive ADef where
  | mark
  | call (f : FuncId) (args : List AV)

structure FS where
  tmps : List AV
  H : List AObj
  D : List ADef

inductive Ex where
  | normal
  | exit (id : Nat)
  | ret
  | panic (v : AV)

structure Oracle where
  call : Orc
  code : FuncId → Bool → Code → FS → Option (Ex × FS)
  loop : FuncId → Bool → Code → FS → Option (Ex × FS)

structure Env where
  ti : TI
  opn : FuncId → Bool
  loc : FuncId → Nat → Bool
  nf : Nat
  adp : FuncId → Bool

def hpS (s : FS) : Hp := hpA s.tmps s.H (· < s.H.length)

inductive OpR where
  | next (s : FS)
  | pan (v : AV) (s : FS)

def jumpOf : Ex → Option (Option Code)
  | .normal => some none
  | .ret => some (some .ret)
  | .exit id => some (some (.exit id))
  | .panic _ => none

/-- A call of a loop's yield. -/
def yieldRun (O : Oracle) (E : Env) (dst : Option Nat) (id : Nat) (args : List AV) (s : FS) : Option OpR :=
  match s.H[id]? with
  | some (.loop .ready _ (fn, nf) tm ps asg body) =>
    if args.length = ps.size ∧ nf = E.nf then
      match O.code fn true asg ⟨(ps.toList.zip args).foldl (fun t p => t.set p.1 p.2) tm, s.H, []⟩ with
      | some (.normal, s1) =>
        match s1.H[id]?, s1.D with
        | some (.loop .ready pend1 fn1 tm1 ps1 asg1 body1), [] =>
          match O.code fn true body ⟨s1.tmps, s1.H.set id (.loop .busy pend1 fn1 tm1 ps1 asg1 body1), []⟩ with
          | some (.panic v, s2) => if s2.D.isEmpty then some (.pan v ⟨s.tmps, s2.H, s.D⟩) else none
          | some (ex, s2) =>
            match s2.H[id]?, jumpOf ex with
            | some (.loop _ _ fn2 tm2 ps2 asg2 body2), some j =>
              some (.next ⟨setD s.tmps dst (.lit (.bool j.isNone)), s2.H.set id (.loop (if j.isNone then .ready else .done) j fn2 tm2 ps2 asg2 body2), s.D⟩)
            | _, _ => none
          | none => none
        | _, _ => none
      | _ => none
    else none
  | _ => none

/-- An operation that is none of the other ones. -/
def opGen (E : Env) (fn : FuncId) (o : Oper) (s : FS) : Option OpR := do
  let e ← aop E.ti (E.loc fn) s.tmps (mOf s.tmps s.H) s.H.length o
  let (t, H') ← putE e s.H.length o.dst s.tmps s.H
  some (.next ⟨t, H', s.D⟩)

/-- A handle whose block is frozen is read out. -/
def thaw (m : Loc → AObj) (rd : List Loc) (c : AV) : AV :=
  match c with
  | .slc _ _ _ _ _ => match frz 20 m c with
    | some (c', r) => if r.all rd.contains then c' else c
    | none => c
  | .ptr _ _ _ => match frz 20 m c with
    | some (c', r) => if r.all rd.contains then c' else c
    | none => c
  | c => c

def killH (rd : List Loc) : Nat → List AObj → List AObj
  | _, [] => []
  | i, o :: H => (if rd.contains (.blk i) then .dead else o) :: killH rd (i + 1) H

def callRun (O : Oracle) (E : Env) (dst : Option Nat) (f : FuncId) (args : List AV) (s : FS) : Option OpR :=
  if E.opn f then
    match O.call f args s.H with
    | some (.ret v H') => some (.next ⟨setD s.tmps dst v, H', s.D⟩)
    | some (.pan v H') => some (.pan v ⟨s.tmps, H', s.D⟩)
    | none => none
  else if E.adp f then
    (aAdopt O.call (mOf s.tmps s.H) s.H.length f args).bind fun e => (putE e s.H.length dst s.tmps s.H).map fun p => .next ⟨p.1, p.2, s.D⟩
  else match frzL (frz 20 (mOf s.tmps s.H)) args with
    | some (fargs, rd) => match O.call f fargs [] with
      | some (.ret v H') => match frz 20 (mOf [] H') v with
        | some (v', _) =>
          if rd.isEmpty || isSc v' || noAl (mOf [] H') v then some (.next ⟨setD s.tmps dst v', s.H, s.D⟩)
          else some (.next ⟨setD (s.tmps.map (thaw (mOf s.tmps s.H) rd)) dst v', killH rd 0 s.H, s.D⟩)
        | none => none
      | some (.pan v _) => if isSc v then some (.pan v s) else none
      | none => none
    | none => none

def opRun (O : Oracle) (E : Env) (fn : FuncId) (rd : Bool) (o : Oper) (s : FS) : Option OpR :=
  match o.op with
  | .panic x => match evT s.tmps x with
    | some (.ifc t v) => some (.pan (.ifc t v) s)
    | _ => none
  | .defer c => match c.callee with
    | .value g => match evT s.tmps g with
      | some (.fn (.func f) xs ys) => if rd then none else do
        let as ← evs s.tmps c.args
        some (.next ⟨setD s.tmps o.dst undefAV, s.H, .call f (xs ++ as ++ ys) :: s.D⟩)
      | _ => none
    | _ => none
  | .call c => match c.callee with
    | .value g => match evT s.tmps g with
      | some (.fn (.func f) xs ys) => do
        let as ← evs s.tmps c.args
        callRun O E o.dst f (xs ++ as ++ ys) s
      | some (.yld id) => do
        let as ← evs s.tmps c.args
        yieldRun O E o.dst id as s
      | _ => none
    | .builtin _ => opGen E fn o s
    | _ => none
  | _ => opGen E fn o s

/-- A deferred call, as it stands. -/
inductive DR (lo : Nat) (σ : Sim) (h : Hp) (w : World) : ADef → Deferred → Prop
  | mark {r : Nat} (hh : w.heap[r]? = some (.deferred (some []))) (hn : ∀ l, h.m l ≠ .dead → σ.ρ l ≠ some r) (hF : ¬ σ.F r) (hlo : lo ≤ r) : DR lo σ h w .mark { target := .collected r, args := #[] }
  | call {f : FuncId} {args : List AV} {xs cap : Array Value} (hsz : (xs ++ cap).size = args.length) (hv : ∀ (i : Nat) c (u : Value), args[i]? = some c → (xs ++ cap)[i]? = some u → V σ h w c u) :
      DR lo σ h w (.call f args) { target := .fn (.func f) cap, args := xs }

inductive DRs (lo : Nat) (σ : Sim) (h : Hp) (w : World) : List ADef → List Deferred → Prop
  | nil (h0 : lo ≤ w.heap.size) : DRs lo σ h w [] []
  | cons {x y xs ys} (h1 : DR lo σ h w x y) (h2 : DRs lo σ h w xs ys) (h3 : ∀ r, y.target = .collected r → ∀ z ∈ ys, z.target ≠ .collected r) : DRs lo σ h w (x :: xs) (y :: ys)

structure RS (lo : Nat) (σ : Sim) (s : FS) (w : World) (a : Act) : Prop where
  rf : RF σ (hpS s) w s.tmps a
  d : DRs lo σ (hpS s) w s.D a.defers

def ExR (σ : Sim) (h : Hp) (w : World) : Ex → Exit → Prop
  | .normal, .normal => True
  | .exit i, .exit j => i = j
  | .ret, .ret => True
  | .panic v, .panic ch => ∃ u, ch = [{ v := u, recovered := false }] ∧ V σ h w v u
  | _, _ => False

def CPost (lo : Nat) (σ : Sim) (s : FS) (w : World) (ex : Ex) (s' : FS) (e : Exit) (a' : Act) (w' : World) : Prop :=
  ∃ σ', ExR σ' (hpS s') w' ex e ∧ RS lo σ' s' w' a' ∧ Ext σ (hpS s) w σ' (hpS s') w'

def GoodX (P : Program) (rd : Bool) (c : Code) (s : FS) (ex : Ex) (s' : FS) : Prop :=
  ∀ (ro : Option Nat), ro.isSome = rd → ∀ (lo : Nat) (σ : Sim) (w : World) (a : Act), RS lo σ s w a → c.wpIn (fen P ro) 0 P (CPost lo σ s w ex s') a w

/-- A loop, from its body's beginning on. -/
def GoodL (P : Program) (rd : Bool) (c : Code) (s : FS) (ex : Ex) (s' : FS) : Prop :=
  ∀ (ro : Option Nat), ro.isSome = rd → ∀ (lo : Nat) (σ : Sim) (w : World) (a : Act), RS lo σ s w a → ∀ (b : Frame) (k : List Item) (cs : List Frame), b.roundOf = ro → (fen P ro).fn b.fn → (fen P ro).room (cs.length + 1 + 0) →
    ∃ e a' w', CPost lo σ s w ex s' e a' w' ∧ ArrivesIn (Machine.fenced P (fen P ro)) P (lone (b.atR a (.code c :: .inLoop c :: k)) cs w) b k cs e a' w'

structure OracleOk (P : Program) (O : Oracle) : Prop where
  call : OrcOk P O.call
  code : ∀ fn rd c s ex s', O.code fn rd c s = some (ex, s') → GoodX P rd c s ex s'
  loop : ∀ fn rd c s ex s', O.loop fn rd c s = some (ex, s') → GoodL P rd c s ex s'

structure EnvOk (P : Program) (E : Env) : Prop where
  ti : TIok P E.ti
  nf : E.nf = P.funcs.size

section
variable {σ σ' σ2 : Sim} {h h' h2 : Hp} {w w' w2 : World} {P : Program} {E : Env} {O : Oracle} {tmps tmps' : List AV} {H H' H2 : List AObj} {A A2 : Nat → Prop} {a : Act} {s s' : FS} {ro : Option Nat} {lo : Nat}

theorem DR.ext (x : Ext σ h w σ' h' w') (hr : RH σ h w) {d : ADef} {y : Deferred} (hd : DR lo σ h w d y) : DR lo σ' h' w' d y := by
  cases hd with
  | mark hh hn hF hlo =>
    refine .mark ((x.keep _ (lt_of_heap hh) hn).trans hh) (fun l hl e => ?_) (fun hf => ?_) hlo
    · rcases x.new l _ hl e with h1 | ⟨h1, h2⟩
      · have := lt_of_heap hh; omega
      · exact hn l h1 h2
    · rcases x.fresh _ hf with h1 | h1 | ⟨l, h1, h2⟩
      · exact hF h1
      · have := lt_of_heap hh; omega
      · exact hn l h1 h2
  | call hsz hv => exact .call hsz fun i c u hi hu => (hv i c u hi hu).ext x hr

theorem DRs.ext (x : Ext σ h w σ' h' w') (hr : RH σ h w) {d : List ADef} {y : List Deferred} (hd : DRs lo σ h w d y) : DRs lo σ' h' w' d y := by
  induction hd with
  | nil h0 => exact .nil (Nat.le_trans h0 x.size)
  | cons h1 h2 h3 ih => exact .cons (h1.ext x hr) ih h3

theorem DRs.base {d : List ADef} {y : List Deferred} (hd : DRs lo σ h w d y) : lo ≤ w.heap.size := by
  induction hd with
  | nil h0 => exact h0
  | cons _ _ _ ih => exact ih

theorem DRs.marks {d : List ADef} {y : List Deferred} (hd : DRs lo σ h w d y) : ∀ z ∈ y, ∀ r, z.target = .collected r → r < w.heap.size := by
  induction hd with
  | nil _ => intro z hz; cases hz
  | cons h1 _ _ ih =>
    intro z hz r hr
    rcases List.mem_cons.1 hz with rfl | hz
    · cases h1 with
      | mark hh _ _ _ => cases hr; exact lt_of_heap hh
      | call _ _ => cases hr
    · exact ih z hz r hr

theorem putE_al {e : Eff} {d : Option Nat} (hp : putE e H.length d tmps H = some (tmps', H')) : alE e H.length (· < H.length) = (· < H'.length) := by
  cases e with
  | val v rd => cases hp; rfl
  | wr v rd l o =>
    cases l with
    | blk id =>
      simp only [putE] at hp
      split at hp
      · cases hp; simp [alE]
      · cases hp
    | box t =>
      simp only [putE] at hp
      split at hp
      · cases hp; rfl
      · cases hp
  | nw v rd o =>
    simp only [putE, Option.map_eq_some_iff] at hp
    obtain ⟨H1, hb, hp⟩ := hp
    cases hp
    simp only [setB, Nat.lt_irrefl, if_false, if_true, Option.some.injEq] at hb
    subst hb
    funext i
    simp [alE]
    omega
  | bx cs =>
    simp only [putE] at hp
    split at hp
    · split at hp
      · cases hp; rfl
      · cases hp
    · cases hp

/-- What is asked behind an operation. -/
def OpGoal (lo : Nat) (σ : Sim) (s : FS) (w : World) (a : Act) (next : Act → World → Prop) (Q : Exit → Act → World → Prop) : OpR → Prop
  | .next s' => ∀ σ' a' w', RS lo σ' s' w' a' → Ext σ (hpS s) w σ' (hpS s') w' → next a' w'
  | .pan v s' => ∀ σ' u w', RS lo σ' s' w' a → V σ' (hpS s') w' v u → Ext σ (hpS s) w σ' (hpS s') w' → Q (.panic [{ v := u, recovered := false }]) a w'

/-- An effect, put into the state. -/
theorem leaves_next {e : Eff} {d : Option Nat} {r : Value} {t : List AV} {next : Act → World → Prop} {Q : Exit → Act → World → Prop} (hr : RS lo σ s w a) (hl : e.Leaves σ (hpS s) w s.H.length d r w')
    (hp : putE e s.H.length d s.tmps s.H = some (t, H')) (hg : OpGoal lo σ s w a next Q (.next ⟨t, H', s.D⟩)) : next (a.put d r) w' := by
  obtain ⟨σ', h1, h2⟩ := put_sound hr.rf hl hp
  have hal := putE_al hp
  rw [hal] at h1 h2
  have hd : (a.put d r).defers = a.defers := by cases d <;> rfl
  exact hg σ' _ w' ⟨h1, by rw [hd]; exact hr.d.ext h2 hr.rf.heap⟩ h2

theorem put_defers (d : Option Nat) (r : Value) : (a.put d r).defers = a.defers := by cases d <;> rfl

theorem not_al (s : FS) : ¬ (hpS s).al s.H.length := by simp [hpS, hpA]

theorem about_other {ρ : Operand → Value} {o : Oper} (h : ∀ c, o.op ≠ .call c) : o.about P w ρ = none := by
  unfold Oper.about
  split
  · rename_i c hc
    exact absurd hc (h c)
  · rfl

theorem about_builtin {ρ : Operand → Value} {o : Oper} {b : Builtin} {xs : Array Operand} {ts : Array TypeId} (h : o.op = .call { callee := .builtin b, args := xs, argTypes := ts }) : o.about P w ρ = none := by
  unfold Oper.about
  rw [h]
  rfl

/-- An operation that is none of the other ones. -/
theorem opGen_wp (hE : EnvOk P E) {fn : FuncId} {o : Oper} {r : OpR} {next : Act → World → Prop} {Q : Exit → Act → World → Prop} (hd : ∀ c, o.op ≠ .defer c) (hab : o.about P w a.eval = none) (hr : RS lo σ s w a)
    (he : opGen E fn o s = some r) (hg : OpGoal lo σ s w a next Q r) : o.wpIn (fen P ro) 0 P a w next Q := by
  unfold opGen at he
  simp only [Option.bind_eq_bind, Option.bind_eq_some_iff, Prod.exists] at he
  obtain ⟨e, ha, t, H', hp, he⟩ := he
  cases he
  obtain ⟨rv, w', hdo, hl⟩ := aop_sound (h := hpS s) hE.ti hr.rf (not_al s) ha
  refine ⟨fun f hf => (by rw [hab] at hf; cases hf), ?_⟩
  rw [Oper.semAt_eq _ _ _ hd]
  rcases hdo with hdo | ⟨hdo, rfl⟩
  · rw [hdo]
    exact leaves_next hr hl hp hg
  · rw [hdo]
    exact leaves_next hr hl hp hg

theorem callsIn_fen {f : FuncId} {us : Array Value} {R : Ending → World → Prop} {n : Nat} (hc : CallsIn (fen P none) 0 P f us w R) : CallsIn (fen P ro) n P f us w R :=
  ⟨hc.1, fun cs _ => hc.2 cs fun _ h => by simp [fen] at h⟩

theorem resolve_fn {ρ : Operand → Value} {g : Operand} {args : Array Operand} {tys : Array TypeId} {ty : TypeId} {fv : Fn} {x y : Array Value} (hu : ρ g = .func fv x y) :
    (resolve ρ { callee := .value g, args, argTypes := tys } ty).run P w = .ok { target := .fn fv y, args := x ++ args.map ρ } w := by
  simp only [resolve, hu, Deferred.ofValue]
  rfl

/-- The call of a function: what the machine is about to do. -/
theorem call_does (hr : RF σ h w tmps a) {o : Oper} {g : Operand} {args : Array Operand} {tys : Array TypeId} {f : FuncId} {xs as ys : List AV} (ho : o.op = .call { callee := .value g, args, argTypes := tys })
    (hg : evT tmps g = some (.fn (.func f) xs ys)) (has : evs tmps args = some as) :
    ∃ us : Array Value, us.size = (xs ++ as ++ ys).length ∧ (∀ (i : Nat) c (u : Value), (xs ++ as ++ ys)[i]? = some c → us[i]? = some u → V σ h w c u) ∧
      o.about P w a.eval = some f ∧ ((∀ us w, (callFunc f us).run P w = .ok (.enter f us) w) → (execOp a.eval o).run P w = .ok (.enter f us) w) := by
  have h0 := evT_sound hr hg
  obtain ⟨h1, h2⟩ := evs_sound hr has
  generalize hu : a.eval g = u at h0
  cases h0 with
  | @fn _ _ _ vx vy sx sy v1 v2 =>
    refine ⟨vx ++ args.map a.eval ++ vy, by simp [sx, sy] at h1 ⊢; omega, fun i c u hi hu => ?_, ?_, fun heg => ?_⟩
    · rw [List.getElem?_append] at hi
      rw [Array.getElem?_append] at hu
      have hl : (vx ++ args.map a.eval).size = (xs ++ as).length := by simp [sx] at h1 ⊢; omega
      rw [hl] at hu
      split at hi
      · rename_i hlt
        rw [if_pos hlt] at hu
        rw [List.getElem?_append] at hi
        rw [Array.getElem?_append] at hu
        rw [sx] at hu
        split at hi
        · rename_i hlt2
          rw [if_pos hlt2] at hu
          exact v1 i c u hi hu
        · rename_i hlt2
          rw [if_neg hlt2] at hu
          exact h2 _ c u hi hu
      · rename_i hlt
        rw [if_neg hlt] at hu
        exact v2 _ c u hi hu
    · unfold Oper.about
      rw [ho]
      simp only [resolve_fn (P := P) (w := w) hu]
      rfl
    · unfold execOp
      rw [ho]
      simp only [Sem.run_bind, resolve_fn (P := P) (w := w) hu, Result.andThen_ok, invoke, heg]

theorem killH_length (rd : List Loc) : ∀ (H : List AObj) (i : Nat), (killH rd i H).length = H.length
  | [], _ => rfl
  | _ :: H, i => by simp [killH, killH_length rd H]

theorem killH_getD (rd : List Loc) : ∀ (H : List AObj) (i id : Nat), (killH rd i H).getD id .dead = if rd.contains (.blk (i + id)) = true then .dead else H.getD id .dead
  | [], i, id => by simp [killH]
  | o :: H, i, 0 => by simp [killH]
  | o :: H, i, id + 1 => by
    have := killH_getD rd H (i + 1) id
    simp only [killH, List.getD_cons_succ, this]
    rw [show i + 1 + id = i + (id + 1) by omega]

theorem thaw_lbox (m : Loc → AObj) (rd : List Loc) (c : AV) : (∀ cs, c = .lbox cs → thaw m rd c = .lbox cs) ∧ ((∀ cs, c ≠ .lbox cs) → ∀ cs, thaw m rd c ≠ .lbox cs) := by
  have nz : ∀ {n c c' r}, frz n m c = some (c', r) → ∀ cs, c' ≠ .lbox cs := by
    intro n c c' r h cs e
    subst e
    cases n with
    | zero => cases h
    | succ n =>
      simp only [frz] at h
      unfold frzStep at h
      split at h
      · cases h
      · cases h
      · cases h
      · cases h
      · split at h
        · split at h
          · simp only [Option.bind_eq_bind, Option.bind_eq_some_iff, Prod.exists] at h
            obtain ⟨_, _, _, h⟩ := h
            cases h
          · cases h
        · cases h
      · split at h
        · split at h
          · simp only [Option.bind_eq_bind, Option.bind_eq_some_iff, Prod.exists] at h
            obtain ⟨_, _, _, h⟩ := h
            cases h
          · cases h
        · cases h
      · simp only [Option.bind_eq_bind, Option.bind_eq_some_iff, Prod.exists] at h
        obtain ⟨_, _, _, _, _, _, h⟩ := h
        cases h
      · simp only [Option.bind_eq_bind, Option.bind_eq_some_iff, Prod.exists] at h
        obtain ⟨_, _, _, h⟩ := h
        cases h
      · simp only [Option.bind_eq_bind, Option.bind_eq_some_iff, Prod.exists] at h
        obtain ⟨_, _, _, h⟩ := h
        cases h
      · simp only [Option.bind_eq_bind, Option.bind_eq_some_iff, Prod.exists] at h
        obtain ⟨_, _, _, h⟩ := h
        cases h
      · cases h
  refine ⟨by rintro cs rfl; rfl, fun hc cs => ?_⟩
  cases c with
  | slc id off len esz st =>
    simp only [thaw]
    split
    · rename_i hz
      split
      · exact nz hz cs
      · exact hc cs
    · exact hc cs
  | ptr id off st =>
    simp only [thaw]
    split
    · rename_i hz
      split
      · exact nz hz cs
      · exact hc cs
    · exact hc cs
  | _ => exact hc cs

theorem boxOf_thaw (m : Loc → AObj) (rd : List Loc) (tmps : List AV) (t : Nat) : boxOf (tmps.map (thaw m rd)) t = boxOf tmps t := by
  unfold boxOf
  rw [List.getElem?_map]
  cases h : tmps[t]? with
  | none => rfl
  | some c =>
    simp only [Option.map_some]
    obtain ⟨h1, h2⟩ := thaw_lbox m rd c
    cases c with
    | lbox cs => rw [h1 cs rfl]
    | _ =>
      have := h2 (by simp)
      split
      · rename_i cs he
        exact absurd (Option.some.inj he) (this cs)
      · rfl

theorem frzL_cells {m : Loc → AObj} : ∀ {cs cs' : List AV} {rd' : List Loc}, frzL (frz 20 m) cs = some (cs', rd') → ∀ l ∈ rd', ∃ id cs, l = .blk id ∧ m l = .cells cs
  | [], _, _, hh, l, hl => by cases hh; cases hl
  | c :: cs, cs', rd', hh, l, hl => by
    simp only [frzL, Option.bind_eq_bind, Option.bind_eq_some_iff, Prod.exists] at hh
    obtain ⟨c', r, g1, cs1, r1, g2, hh⟩ := hh
    cases hh
    rcases List.mem_append.1 hl with hl | hl
    · exact frz_cells 20 g1 l hl
    · exact frzL_cells g2 l hl

theorem callRun_wp (hO : OrcOk P O.call) {o : Oper} {g : Operand} {args : Array Operand} {tys : Array TypeId} {f : FuncId} {xs as ys : List AV} {r : OpR} {next : Act → World → Prop} {Q : Exit → Act → World → Prop}
    (hr : RS lo σ s w a) (ho : o.op = .call { callee := .value g, args, argTypes := tys })
    (hg : evT s.tmps g = some (.fn (.func f) xs ys)) (has : evs s.tmps args = some as) (he : callRun O E o.dst f (xs ++ as ++ ys) s = some r) (hgoal : OpGoal lo σ s w a next Q r) : o.wpIn (fen P ro) 0 P a w next Q := by
  obtain ⟨us, k1, k2, k3, k4⟩ := call_does (P := P) hr.rf ho hg has
  have hsem : ∀ x, o.semAt x a.eval = execOp a.eval o := fun x => Oper.semAt_eq _ _ _ (by rw [ho]; simp)
  unfold callRun at he
  split at he
  · -- with the memory
    cases hc : O.call f (xs ++ as ++ ys) s.H with
    | none => rw [hc] at he; cases he
    | some cr =>
      rw [hc] at he
      obtain ⟨g1, g2⟩ := hO _ _ _ _ hc
      have hcall := g2 σ w us hr.rf.heap.noBoxes k1 fun i c u hi hu => V.blks (σ := σ) (σ' := σ) (h := hpS s) (h' := hp0 s.H) (fun _ => rfl) (fun _ h => h) (fun _ => rfl) (fun _ h => h) (k2 i c u hi hu)
      refine ⟨fun f' hf' => ?_, ?_⟩
      · rw [k3] at hf'
        cases hf'
        exact hcall.1
      · rw [hsem, k4 g1, Oper.uponIn_enter]
        refine ⟨fun hh => by simp [fen] at hh, callsIn_fen (hcall.mono ?_)⟩
        intro e w' hl
        cases cr with
        | ret v H' =>
          simp only [] at he
          cases he
          obtain ⟨u, rfl, σ2, x, hr2, hv⟩ := hl
          obtain ⟨q1, q2, q3⟩ := rejoin (H2 := H') (A2 := (· < H'.length)) hr.rf x hr2
          have hv3 := q3 hv
          have hva : VA (joinS σ σ2) (hpA s.tmps H' (· < H'.length)) w' v u := by
            cases v <;> first | exact hv3 | cases hv3
          obtain ⟨p1, p2⟩ := slot_sound (d := o.dst) (σ := joinS σ σ2) (H := H') (A := (· < H'.length)) q1 rfl (Ext.refl _ _ _) q1.heap hva fun _ => rfl
          have x3 := q2.trans p2
          exact hgoal _ _ w' ⟨p1, by rw [put_defers]; exact hr.d.ext x3 hr.rf.heap⟩ x3
        | pan v H' =>
          simp only [] at he
          cases he
          obtain ⟨u, rfl, σ2, x, hr2, hv⟩ := hl
          obtain ⟨q1, q2, q3⟩ := rejoin (H2 := H') (A2 := (· < H'.length)) hr.rf x hr2
          exact hgoal _ u w' ⟨q1, hr.d.ext q2 hr.rf.heap⟩ (q3 hv) q2
  · -- without
    split at he
    · simp only [Option.bind_eq_some_iff, Option.map_eq_some_iff] at he
      obtain ⟨e, ha, ⟨t, H'⟩, hp, he⟩ := he
      cases he
      obtain ⟨g1, hcall⟩ := adopt_sound (h := hpS s) hO hr.rf.heap (not_al s) ha k1 k2 o.dst
      refine ⟨fun f' hf' => ?_, ?_⟩
      · rw [k3] at hf'
        cases hf'
        exact hcall.1
      · rw [hsem, k4 g1, Oper.uponIn_enter]
        refine ⟨fun hh => by simp [fen] at hh, callsIn_fen (hcall.mono ?_)⟩
        intro e' w' hl
        cases e' with
        | returned u => exact leaves_next hr hl hp hgoal
        | panicked c => exact hl.elim
        | outgrown => exact hl.elim
    split at he
    case h_2 => cases he
    rename_i fargs rd hf
    obtain ⟨s1, _⟩ := frzL_spec hf
    have hsz : us.size = fargs.length := by rw [k1, s1]
    have start : GoodC P f fargs [] = GoodC P f fargs [] := rfl
    have enter : ∀ {cr : CR} {R : Ending → World → Prop}, GoodC P f fargs [] cr → CallsIn (fen P none) 0 P f us w R → (∀ v w', R (.returned v) w' → next (a.put o.dst v) w') → (∀ ch w', R (.panicked ch) w' → Q (.panic ch) a w') → (∀ w', ¬ R .outgrown w') → o.wpIn (fen P ro) 0 P a w next Q := by
      intro cr R hg hcall r1 r2 r3
      refine ⟨fun f' hf' => ?_, ?_⟩
      · rw [k3] at hf'
        cases hf'
        exact hcall.1
      · rw [hsem, k4 hg.1, Oper.uponIn_enter]
        refine ⟨fun hh => by simp [fen] at hh, callsIn_fen (hcall.mono ?_)⟩
        intro e' w' hl
        cases e' with
        | returned u => exact r1 u w' hl
        | panicked c => exact r2 c w' hl
        | outgrown => exact absurd hl (r3 w')
    cases hc : O.call f fargs [] with
    | none => rw [hc] at he; cases he
    | some cr =>
      rw [hc] at he
      have hg := hO _ _ _ _ hc
      cases cr with
      | pan v H' =>
        simp only [] at he
        split at he
        · rename_i hsc
          cases he
          refine enter hg (pure_core_pan (h := hpS s) hr.rf.heap hg hsc hsz (frzL_args hr.rf.heap hf k2 fun b hb => hb.imp id fun ⟨l, q1, q2⟩ => ⟨l, frzL_alive hf l q1, q2⟩)) (fun _ _ h => h.elim) (fun ch w' hh => ?_) (fun _ h => h)
          obtain ⟨u, rfl, xe, hre, hvv⟩ := hh
          obtain ⟨z1, z2⟩ := slot_sound (d := none) (v := undefAV) (r := undef) hr.rf rfl xe hre (.lit _) fun _ => rfl
          exact hgoal σ u w' ⟨z1, hr.d.ext z2 hr.rf.heap⟩ hvv z2
        · cases he
      | ret v H' =>
        simp only [] at he
        split at he
        case h_2 => cases he
        rename_i v' rd2 hv2
        split at he
        · rename_i hcond
          cases he
          rw [Bool.or_eq_true, Bool.or_eq_true] at hcond
          have fin : ∀ (σ' : Sim) (u : Value) (w' : World), (∀ t, σ'.ρ (.box t) = σ.ρ (.box t)) → Ext σ (hpS s) w σ' (hpS s) w' → RH σ' (hpS s) w' → V σ' (hpS s) w' v' u → next (a.put o.dst u) w' := fun σ' u w' hb xe hre hvv => by
            obtain ⟨z1, z2⟩ := slot_sound (d := o.dst) hr.rf rfl xe hre (VA_of_V hvv) hb
            exact hgoal σ' _ w' ⟨z1, by rw [put_defers]; exact hr.d.ext z2 hr.rf.heap⟩ z2
          by_cases hrd : rd = []
          · subst hrd
            refine enter hg (pure_core (h := hpS s) hr.rf.heap hg hv2 hsz (frzL_args hr.rf.heap hf k2 fun b hb => hb.resolve_right (by simp))) (fun u w' hh => ?_) (fun _ _ h => h.elim) (fun _ h => h)
            obtain ⟨F3, xe, hre, hvv⟩ := hh
            exact fin ⟨σ.ρ, F3⟩ u w' (fun _ => rfl) xe hre hvv
          · rcases hcond with hcond | hna
            case inr =>
              refine enter hg (pure_core_na (h := hpS s) hr.rf.heap hg hv2 hna hsz (frzL_args hr.rf.heap hf k2 fun b hb => hb.imp id fun ⟨l, q1, q2⟩ => ⟨l, frzL_alive hf l q1, q2⟩)) (fun u w' hh => ?_) (fun _ _ h => h.elim) (fun _ h => h)
              obtain ⟨F3, xe, hre, hvv⟩ := hh
              exact fin ⟨σ.ρ, F3⟩ u w' (fun _ => rfl) xe hre hvv
            have hsc : isSc v' = true := hcond.resolve_left (by cases rd <;> simp_all)
            refine enter hg (pure_core_sc (h := hpS s) hr.rf.heap hg hv2 hsc hsz (frzL_args hr.rf.heap hf k2 fun b hb => hb.imp id fun ⟨l, q1, q2⟩ => ⟨l, frzL_alive hf l q1, q2⟩)) (fun u w' hh => ?_) (fun _ _ h => h.elim) (fun _ h => h)
            obtain ⟨xe, hre, hvv⟩ := hh
            exact fin _ u w' (fun _ => rfl) xe hre hvv
        · -- what the arguments show is frozen
          cases he
          obtain ⟨x1, hr1⟩ := RH.kill hr.rf.heap (fun id => rd.contains (.blk id))
          have hcov : ∀ (r : List Loc), (∀ l ∈ r, rd.contains l = true) → (∀ l ∈ r, ∃ id cs, l = .blk id ∧ (hpS s).m l = .cells cs) → ∀ b, Cov σ r b → (σ.kill (hpS s) fun id => rd.contains (.blk id)).F b := fun r h1 h2 b hb => by
            rcases hb with hb | ⟨l, q1, q2⟩
            · exact .inl hb
            · obtain ⟨id, cs, rfl, q3⟩ := h2 l q1
              exact .inr ⟨id, h1 _ q1, ⟨cs, q3⟩, q2⟩
          have hk : (hpS s).kill (fun id => rd.contains (.blk id)) = hpA (s.tmps.map (thaw (mOf s.tmps s.H) rd)) (killH rd 0 s.H) (· < (killH rd 0 s.H).length) := by
            unfold hpS
            simp only [Hp.kill, hpA]
            congr 1
            · funext l
              cases l with
              | blk id =>
                have := killH_getD rd s.H 0 id
                simp only [Nat.zero_add] at this
                simp only [mOf, this]
              | box t => simp only [mOf, boxOf_thaw]
            · rw [killH_length]
          rw [hk] at x1 hr1
          have hrf1 : RF (σ.kill (hpS s) fun id => rd.contains (.blk id)) (hpA (s.tmps.map (thaw (mOf s.tmps s.H) rd)) (killH rd 0 s.H) (· < (killH rd 0 s.H).length)) w (s.tmps.map (thaw (mOf s.tmps s.H) rd)) a := by
            refine ⟨hr1, fun t => rfl, by rw [List.length_map]; exact hr.rf.len, fun t c u hc hu => ?_⟩
            rw [List.getElem?_map, Option.map_eq_some_iff] at hc
            obtain ⟨c0, hc, rfl⟩ := hc
            have hv0 := hr.rf.val t c0 u hc hu
            have keep : VT (σ.kill (hpS s) fun id => rd.contains (.blk id)) (hpA (s.tmps.map (thaw (mOf s.tmps s.H) rd)) (killH rd 0 s.H) (· < (killH rd 0 s.H).length)) w t c0 u := VT_ext x1 hr.rf.heap (fun _ _ => rfl) hv0
            have melt : ∀ {c' r}, V σ (hpS s) w c0 u → frz 20 (mOf s.tmps s.H) c0 = some (c', r) → r.all rd.contains = true → VT (σ.kill (hpS s) fun id => rd.contains (.blk id)) (hpA (s.tmps.map (thaw (mOf s.tmps s.H) rd)) (killH rd 0 s.H) (· < (killH rd 0 s.H).length)) w t c' u := by
              intro c' r hv0 hz hall
              have hz' : frz 20 (hpS s).m c0 = some (c', r) := hz
              exact VT_of_VA (VA_of_V ((frz_sound hr.rf.heap 20 hz' hv0).2.2 _ _ w (hcov r (fun l hl => List.all_eq_true.1 hall l hl) (frz_cells 20 hz')) fun _ _ => rfl))
            cases c0 with
            | slc id off len esz st =>
              simp only [thaw]
              split
              · rename_i c' r hz
                split
                · rename_i hall; exact melt hv0 hz hall
                · exact keep
              · exact keep
            | ptr id off st =>
              simp only [thaw]
              split
              · rename_i c' r hz
                split
                · rename_i hall; exact melt hv0 hz hall
                · exact keep
              · exact keep
            | _ => exact keep
          refine enter hg (pure_core hr1 hg hv2 hsz (frzL_args hr.rf.heap hf k2 (hcov rd (fun l hl => by simpa using hl) (frzL_cells hf)))) (fun u w' hh => ?_) (fun _ _ h => h.elim) (fun _ h => h)
          obtain ⟨F3, xe, hre, hvv⟩ := hh
          obtain ⟨z1, z2⟩ := slot_sound (d := o.dst) hrf1 rfl xe hre (VA_of_V hvv) fun _ => rfl
          have x2 := x1.trans z2
          exact hgoal _ _ w' ⟨z1, by rw [put_defers]; exact hr.d.ext x2 hr.rf.heap⟩ x2
end
end Go.Proofs.Ytmmabdpmeijgmaa.AM
