/- The machine on trees: yields, regions, code, functions. -/
import Derived.Test.YtmmabdpmeijgmaaA35
import Derived.Test.YtmmabdpmeijgmaaA35B
import Derived.Test.YtmmabdpmeijgmaaA31
namespace Go.Proofs.Ytmmabdpmeijgmaa.AM
open Go

noncomputable def yield2 (O : Oracle2) (E : Env) (dst : Option Nat) (id : Nat) (args : List AV) (s : FS2) : Option OpR2 :=
  match s.H.at id with
  | some (.loop .ready _ (fn, nf) tm ps asg body) =>
    if args.length = ps.size ∧ nf = E.nf then
      match O.code fn true asg ⟨Tm.ofL ((ps.toList.zip args).foldl (fun t p => t.set p.1 p.2) tm), s.H, []⟩ with
      | some (.normal, s1) =>
        match s1.H.at id, s1.D with
        | some (.loop .ready pend1 fn1 tm1 ps1 asg1 body1), [] =>
          match O.code fn true body ⟨s1.t, s1.H.set id (.loop .busy pend1 fn1 tm1 ps1 asg1 body1), []⟩ with
          | some (.panic v, s2) => if s2.D.isEmpty then some (.pan v ⟨s.t, s2.H, s.D⟩) else none
          | some (ex, s2) =>
            match s2.H.at id, jumpOf ex with
            | some (.loop _ _ fn2 tm2 ps2 asg2 body2), some j =>
              some (.next ⟨setD2 s.t dst (.lit (.bool j.isNone)), s2.H.set id (.loop (if j.isNone then .ready else .done) j fn2 tm2 ps2 asg2 body2), s.D⟩)
            | _, _ => none
          | none => none
        | _, _ => none
      | _ => none
    else none
  | _ => none

theorem yield2_eq {O2 : Oracle2} {O : Oracle} (hO : Like O2 O) (E : Env) (dst : Option Nat) (id : Nat) (args : List AV) (s : FS2) : (yield2 O2 E dst id args s).map OpR2.abs = yieldRun O E dst id args s.abs := by
  unfold yield2 yieldRun
  rw [Hm.at_eq]
  show _ = (match s.H.l[id]? with
    | some (.loop .ready _ (fn, nf) tm ps asg body) => _
    | _ => none)
  cases hl : s.H.l[id]? with
  | none => rfl
  | some o =>
    cases o with
    | loop st pend p tm ps asg body =>
      obtain ⟨fn, nf⟩ := p
      cases st with
      | ready =>
        simp only []
        by_cases hc : args.length = ps.size ∧ nf = E.nf
        · rw [if_pos hc, if_pos hc]
          have h1 := hO.code fn true asg ⟨Tm.ofL ((ps.toList.zip args).foldl (fun t p => t.set p.1 p.2) tm), s.H, []⟩
          have e1 : (⟨Tm.ofL ((ps.toList.zip args).foldl (fun t p => t.set p.1 p.2) tm), s.H, []⟩ : FS2).abs = ⟨(ps.toList.zip args).foldl (fun t p => t.set p.1 p.2) tm, s.abs.H, []⟩ := rfl
          rw [e1] at h1
          rw [← h1]
          cases O2.code fn true asg ⟨Tm.ofL ((ps.toList.zip args).foldl (fun t p => t.set p.1 p.2) tm), s.H, []⟩ with
          | none => rfl
          | some r =>
            obtain ⟨ex, s1⟩ := r
            cases ex with
            | normal =>
              simp only [Option.map_some, xabs, Hm.at_eq]
              have e2 : s1.abs.H[id]? = s1.H.l[id]? := rfl
              have e3 : s1.abs.D = s1.D := rfl
              rw [e2, e3]
              cases s1.H.l[id]? with
              | none => rfl
              | some o1 =>
                cases o1 with
                | loop st1 pend1 p1 tm1 ps1 asg1 body1 =>
                  cases st1 with
                  | ready =>
                    cases s1.D with
                    | cons d D => rfl
                    | nil =>
                      simp only []
                      have h2 := hO.code fn true body ⟨s1.t, s1.H.set id (.loop .busy pend1 p1 tm1 ps1 asg1 body1), []⟩
                      have e4 : (⟨s1.t, s1.H.set id (.loop .busy pend1 p1 tm1 ps1 asg1 body1), []⟩ : FS2).abs = ⟨s1.abs.tmps, s1.abs.H.set id (.loop .busy pend1 p1 tm1 ps1 asg1 body1), []⟩ := rfl
                      rw [e4] at h2
                      rw [← h2]
                      cases O2.code fn true body ⟨s1.t, s1.H.set id (.loop .busy pend1 p1 tm1 ps1 asg1 body1), []⟩ with
                      | none => rfl
                      | some r2 =>
                        obtain ⟨ex2, s2⟩ := r2
                        have fin : ∀ ex2, (match s2.H.l[id]?, jumpOf ex2 with
                            | some (.loop _ _ fn2 tm2 ps2 asg2 body2), some j =>
                              some (OpR2.next ⟨setD2 s.t dst (.lit (.bool j.isNone)), s2.H.set id (.loop (if j.isNone then .ready else .done) j fn2 tm2 ps2 asg2 body2), s.D⟩)
                            | _, _ => none).map OpR2.abs = (match s2.abs.H[id]?, jumpOf ex2 with
                            | some (.loop _ _ fn2 tm2 ps2 asg2 body2), some j =>
                              some (OpR.next ⟨setD s.abs.tmps dst (.lit (.bool j.isNone)), s2.abs.H.set id (.loop (if j.isNone then .ready else .done) j fn2 tm2 ps2 asg2 body2), s.abs.D⟩)
                            | _, _ => none) := by
                          intro ex2
                          rw [show s2.abs.H[id]? = s2.H.l[id]? from rfl]
                          cases s2.H.l[id]? with
                          | none => rfl
                          | some o2 =>
                            cases o2 <;> cases jumpOf ex2 <;> first | rfl | simp [OpR2.abs, FS2.abs, setD2_l, Hm.set]
                        cases ex2 with
                        | panic v =>
                          simp only [Option.map_some, xabs]
                          have e5 : s2.abs.D = s2.D := rfl
                          rw [e5]
                          split <;> rfl
                        | normal => exact fin .normal
                        | ret => exact fin .ret
                        | exit i => exact fin (.exit i)
                  | busy => rfl
                  | done => rfl
                  | exhausted => rfl
                | _ => rfl
            | _ => rfl
        · rw [if_neg hc, if_neg hc]; rfl
      | busy => rfl
      | done => rfl
      | exhausted => rfl
    | _ => rfl

noncomputable def opRun2 (O : Oracle2) (E : Env) (fn : FuncId) (rd : Bool) (o : Oper) (s : FS2) : Option OpR2 :=
  match o.op with
  | .panic x => match evT2 s.t x with
    | some (.ifc t v) => some (.pan (.ifc t v) s)
    | _ => none
  | .defer c => match c.callee with
    | .value g => match evT2 s.t g with
      | some (.fn (.func f) xs ys) => if rd then none else (evsG (evT2 s.t) c.args).bind fun as =>
        some (.next ⟨setD2 s.t o.dst undefAV, s.H, .call f (xs ++ as ++ ys) :: s.D⟩)
      | _ => none
    | _ => none
  | .call c => match c.callee with
    | .value g => match evT2 s.t g with
      | some (.fn (.func f) xs ys) => (evsG (evT2 s.t) c.args).bind fun as => callRun2 O E o.dst f (xs ++ as ++ ys) s
      | some (.yld id) => (evsG (evT2 s.t) c.args).bind fun as => yield2 O E o.dst id as s
      | _ => none
    | .builtin _ => opGen2 E fn o s
    | _ => none
  | _ => opGen2 E fn o s

theorem opRun2_eq {O2 : Oracle2} {O : Oracle} (hO : Like O2 O) (E : Env) (fn : FuncId) (rd : Bool) (o : Oper) (s : FS2) : (opRun2 O2 E fn rd o s).map OpR2.abs = opRun O E fn rd o s.abs := by
  have gen := opGen2_eq E fn o s
  unfold opRun2 opRun
  rw [evT2_eq]
  have e1 : s.abs.tmps = s.t.l := rfl
  rw [e1]
  cases ho : o.op <;> first | exact gen | skip
  case panic x =>
    simp only []
    cases evT s.t.l x with
    | none => rfl
    | some v => cases v <;> rfl
  case defer c =>
    obtain ⟨cal, args, tys⟩ := c
    cases cal with
    | value g =>
      simp only []
      cases evT s.t.l g with
      | none => rfl
      | some v =>
        cases v with
        | fn f xs ys =>
          cases f with
          | func f =>
            simp only []
            cases rd with
            | true => rfl
            | false =>
              show Option.map _ (Option.bind (evs s.t.l args) _) = Option.bind (evs s.t.l args) _
              cases evs s.t.l args with
              | none => rfl
              | some as => simp [OpR2.abs, FS2.abs, setD2_l]
          | _ => rfl
        | _ => rfl
    | _ => rfl
  case call c =>
    obtain ⟨cal, args, tys⟩ := c
    cases cal with
    | value g =>
      simp only []
      cases evT s.t.l g with
      | none => rfl
      | some v =>
        cases v with
        | fn f xs ys =>
          cases f with
          | func f =>
            show Option.map _ (Option.bind (evs s.t.l args) _) = Option.bind (evs s.t.l args) _
            cases evs s.t.l args with
            | none => rfl
            | some as => exact callRun2_eq hO E o.dst f _ s
          | _ => rfl
        | yld id =>
          show Option.map _ (Option.bind (evs s.t.l args) _) = Option.bind (evs s.t.l args) _
          cases evs s.t.l args with
          | none => rfl
          | some as => exact yield2_eq hO E o.dst id as s
        | _ => rfl
    | builtin b => exact gen
    | _ => rfl

/-- The operations of a region, one after the other. -/
noncomputable def ops2 (O : Oracle2) (E : Env) (fn : FuncId) (rd : Bool) (all : List Oper) (l : List Oper) : FS2 → Option (Ex × FS2) :=
  @List.rec Oper (fun _ => FS2 → Option (Ex × FS2)) (fun s => some (.normal, s)) (fun o _ ih s => match wanted2 all s.t o with
    | some true => (match opRun2 O E fn rd o s with
      | some (.next s') => ih s'
      | some (.pan v s') => some (.panic v, s')
      | none => none)
    | some false => if about2 E s.t o then ih ⟨setD2 s.t o.dst undefAV, s.H, s.D⟩ else none
    | none => none) l

def opsL (O : Oracle) (E : Env) (fn : FuncId) (rd : Bool) (ops : Array Oper) : List Oper → FS → Option (Ex × FS)
  | [], s => some (.normal, s)
  | o :: rest, s => match wantedA ops s.tmps o with
      | some true => match opRun O E fn rd o s with
        | some (.next s') => opsL O E fn rd ops rest s'
        | some (.pan v s') => some (.panic v, s')
        | none => none
      | some false => if aboutOk E s.tmps o then opsL O E fn rd ops rest ⟨setD s.tmps o.dst undefAV, s.H, s.D⟩ else none
      | none => none

theorem opsL_range {O : Oracle} {E : Env} {fn : FuncId} {rd : Bool} (ops : Array Oper) (s : FS) : opsRun O E fn rd ops (List.range ops.size) s = opsL O E fn rd ops ops.toList s := by
  have key : ∀ (l : List Oper) (k : Nat), (∀ (i : Nat), l[i]? = ops[k + i]?) → k + l.length = ops.size → ∀ s, opsRun O E fn rd ops (List.range' k l.length) s = opsL O E fn rd ops l s := by
    intro l
    induction l with
    | nil => intro k _ _ s; rfl
    | cons o l ih =>
      intro k h1 h2 s
      have h0 : ops[k]? = some o := by have := h1 0; simpa using this.symm
      have ih' := ih (k + 1) (fun i => by have := h1 (i + 1); rw [List.getElem?_cons_succ] at this; rw [this]; congr 1; omega) (by simp at h2; omega)
      simp only [List.length_cons, List.range'_succ, opsRun, opsL, h0]
      cases wantedA ops s.tmps o with
      | none => rfl
      | some b =>
        cases b with
        | true =>
          simp only []
          cases opRun O E fn rd o s with
          | none => rfl
          | some r => cases r with
            | next s' => exact ih' _
            | pan v s' => rfl
        | false =>
          simp only []
          split
          · exact ih' _
          · rfl
  have := key ops.toList 0 (fun i => by simp) (by simp) s
  rw [← this, List.range_eq_range']
  simp

theorem ops2_eq {O2 : Oracle2} {O : Oracle} (hO : Like O2 O) (E : Env) (fn : FuncId) (rd : Bool) (ops : Array Oper) : ∀ (l : List Oper) (s : FS2), (ops2 O2 E fn rd ops.toList l s).map xabs = opsL O E fn rd ops l s.abs
  | [], s => rfl
  | o :: l, s => by
    show Option.map xabs (match wanted2 ops.toList s.t o with
      | some true => (match opRun2 O2 E fn rd o s with
        | some (.next s') => ops2 O2 E fn rd ops.toList l s'
        | some (.pan v s') => some (.panic v, s')
        | none => none)
      | some false => if about2 E s.t o then ops2 O2 E fn rd ops.toList l ⟨setD2 s.t o.dst undefAV, s.H, s.D⟩ else none
      | none => none) = (match wantedA ops s.t.l o with
      | some true => (match opRun O E fn rd o s.abs with
        | some (.next s') => opsL O E fn rd ops l s'
        | some (.pan v s') => some (.panic v, s')
        | none => none)
      | some false => if aboutOk E s.t.l o then opsL O E fn rd ops l ⟨setD s.t.l o.dst undefAV, s.H.l, s.D⟩ else none
      | none => none)
    rw [wanted2_eq, about2_eq]
    cases wantedA ops s.t.l o with
    | none => rfl
    | some b =>
      cases b with
      | true =>
        simp only []
        rw [← opRun2_eq hO]
        cases opRun2 O2 E fn rd o s with
        | none => rfl
        | some r => cases r with
          | next s' => exact ops2_eq hO E fn rd ops l s'
          | pan v s' => rfl
      | false =>
        simp only []
        split
        · rw [ops2_eq hO E fn rd ops l]
          simp [FS2.abs, setD2_l]
        · rfl

/-! ### drawn regions -/
noncomputable def opEff2 (O : Oracle2) (E : Env) (fn : FuncId) (k : Nat) (o : Oper) (t : Tm) (H : Hm) : Option Eff :=
  match o.op with
  | .panic _ => none
  | .defer _ => none
  | .call c => match c.callee with
    | .value g => match evT2 t g with
      | some (.fn (.func f) xs ys) => if E.opn f then none else (evsG (evT2 t) c.args).bind fun as =>
        if E.adp f then adopt2 O (mOf2 t H) k f (xs ++ as ++ ys) else pure2 O (mOf2 t H) f (xs ++ as ++ ys)
      | _ => none
    | .builtin _ => aopG E.ti (E.loc fn) (evT2 t) (evA2 t) (mOf2 t H) k o
    | _ => none
  | _ => aopG E.ti (E.loc fn) (evT2 t) (evA2 t) (mOf2 t H) k o
theorem opEff2_eq {O2 : Oracle2} {O : Oracle} (hO : Like O2 O) (E : Env) (fn : FuncId) (k : Nat) (o : Oper) (t : Tm) (H : Hm) : opEff2 O2 E fn k o t H = opEff O E fn k o t.l H.l := by
  unfold opEff2 opEff
  simp only [evT2_eq, evA2_eq, mOf2_eq, aopG_eq, pure2_eq hO, adopt2_eq hO]
  cases o.op <;> rfl

noncomputable def okE2 (e : Eff) (k : Nat) (d : Option Nat) (t : Tm) (H : Hm) : Bool :=
  match e with
  | .val v _ => (match v with | .lbox _ => false | _ => true)
  | .wr v _ (.blk id) _ => Nat.blt id H.n && (match v with | .lbox _ => false | _ => true)
  | .wr _ _ (.box b) o => d.isNone && (match o with | .cells _ => true | _ => false) && (match t.get b with | some (.lbox _) => true | _ => false)
  | .nw v _ _ => Nat.blt k H.n && (match v with | .lbox _ => false | _ => true)
  | .bx _ => false
theorem blt_dec (H : Hm) (id : Nat) : Nat.blt id H.n = decide (id < H.l.length) := by
  by_cases h : id < H.l.length
  · rw [decide_eq_true h]; exact (blt_iff H id).2 h
  · rw [decide_eq_false h]
    cases hb : Nat.blt id H.n with
    | false => rfl
    | true => exact absurd ((blt_iff H id).1 hb) h
theorem okE2_eq (e : Eff) (k : Nat) (d : Option Nat) (t : Tm) (H : Hm) : okE2 e k d t H = okE e k d t.l H.l := by
  cases e with
  | val v rd => cases v <;> rfl
  | wr v rd l o =>
    cases l with
    | blk id => simp only [okE2, okE, blt_dec]; cases v <;> rfl
    | box b => simp only [okE2, okE, isLbox, t.get_eq]; cases o <;> rfl
  | nw v rd o => simp only [okE2, okE, blt_dec]; cases v <;> rfl
  | bx cs => rfl

noncomputable def dstep2 (O : Oracle2) (E : Env) (fn : FuncId) (all : List Oper) (o : Oper) (k : Nat) (t : Tm) (H : Hm) : Option Eff :=
  match wanted2 all t o with
  | some true => (match opEff2 O E fn k o t H with
    | some e => if okE2 e k o.dst t H then some e else none
    | none => none)
  | some false => if about2 E t o then some (.val undefAV []) else none
  | none => none
theorem dstep2_eq {O2 : Oracle2} {O : Oracle} (hO : Like O2 O) (E : Env) (fn : FuncId) (ops : Array Oper) (base i : Nat) {o : Oper} (ho : ops[i]? = some o) (t : Tm) (H : Hm) : dstep2 O2 E fn ops.toList o (base + i) t H = dstep O E fn ops base i t.l H.l := by
  unfold dstep2 dstep
  rw [ho, wanted2_eq, about2_eq, opEff2_eq hO]
  simp only [okE2_eq]
  cases wantedA ops t.l o with
  | none => rfl
  | some b => cases b <;> rfl

noncomputable def dT2 (o : Oper) (e : Eff) (t : Tm) : Tm :=
  match tuE e o.dst with
  | some (i, v) => t.set i v
  | none => t
noncomputable def dH2 (k : Nat) (e : Eff) (H : Hm) : Hm :=
  match huE e k with
  | some (i, o) => H.set i o
  | none => H
theorem dT2_eq (ops : Array Oper) (i : Nat) {o : Oper} (ho : ops[i]? = some o) (e : Eff) (t : Tm) : (dT2 o e t).l = dT ops i e t.l := by
  unfold dT2 dT updT dstOf
  rw [ho]
  simp only [Option.bind_some]
  cases tuE e o.dst with
  | none => rfl
  | some p => rfl
theorem dH2_eq (base i : Nat) (e : Eff) (H : Hm) : (dH2 (base + i) e H).l = dH base i e H.l := by
  unfold dH2 dH updH
  cases huE e (base + i) with
  | none => rfl
  | some p => rfl

noncomputable def drun2 (O : Oracle2) (E : Env) (fn : FuncId) (all : List Oper) (base : Nat) (l : List Oper) : Nat → Tm → Hm → Option (List (Nat × Eff) × Tm × Hm) :=
  @List.rec Oper (fun _ => Nat → Tm → Hm → Option (List (Nat × Eff) × Tm × Hm)) (fun _ t H => some ([], t, H)) (fun o _ ih i t H => match dstep2 O E fn all o (Nat.add base i) t H with
    | some e => (match ih (Nat.succ i) (dT2 o e t) (dH2 (Nat.add base i) e H) with
      | some (es, X) => some ((i, e) :: es, X)
      | none => none)
    | none => none) l
def dabs (p : List (Nat × Eff) × Tm × Hm) : List (Nat × Eff) × List AV × List AObj := (p.1, p.2.1.l, p.2.2.l)
theorem drun2_eq {O2 : Oracle2} {O : Oracle} (hO : Like O2 O) (E : Env) (fn : FuncId) (ops : Array Oper) (base : Nat) : ∀ (l : List Oper) (i : Nat) (t : Tm) (H : Hm), (∀ (j : Nat) o, l[j]? = some o → ops[i + j]? = some o) →
    (drun2 O2 E fn ops.toList base l i t H).map dabs = drun O E fn ops base (List.range' i l.length) t.l H.l
  | [], i, t, H, _ => rfl
  | o :: l, i, t, H, h => by
    have ho : ops[i]? = some o := h 0 o rfl
    show Option.map dabs (match dstep2 O2 E fn ops.toList o (base + i) t H with
      | some e => (match drun2 O2 E fn ops.toList base l (i + 1) (dT2 o e t) (dH2 (base + i) e H) with
        | some (es, X) => some ((i, e) :: es, X)
        | none => none)
      | none => none) = _
    rw [List.length_cons, List.range'_succ]
    simp only [drun]
    rw [dstep2_eq hO E fn ops base i ho]
    cases dstep O E fn ops base i t.l H.l with
    | none => rfl
    | some e =>
      simp only []
      have ih := drun2_eq hO E fn ops base l (i + 1) (dT2 o e t) (dH2 (base + i) e H) fun j o' hj => by
        have := h (j + 1) o' (by simpa using hj)
        rw [← this]; congr 1; omega
      rw [dT2_eq ops i ho, dH2_eq] at ih
      rw [← ih]
      cases drun2 O2 E fn ops.toList base l (i + 1) (dT2 o e t) (dH2 (base + i) e H) with
      | none => rfl
      | some p => obtain ⟨es, t', H'⟩ := p; rfl

theorem drun_fst {O : Oracle} {E : Env} {fn : FuncId} {ops : Array Oper} {base : Nat} : ∀ (l : List Nat) {tmps : List AV} {H : List AObj} {es : List (Nat × Eff)} {X : List AV × List AObj}, drun O E fn ops base l tmps H = some (es, X) → es.map (·.1) = l := by
  intro l
  induction l with
  | nil => intro tmps H es X h; cases h; rfl
  | cons j l ih =>
    intro tmps H es X h
    simp only [drun] at h
    split at h
    · split at h
      · rename_i h3
        cases h
        simp [ih h3]
      · cases h
    · cases h

/-- A drawn part in which all that is done is to read. -/
noncomputable def quietM (ops : Array Oper) : Bool :=
  match edgesOk ops with
  | true => (List.range ops.size).all fun j => (List.range j).all fun i => match tb ((masks ops).getD (ops.size - 1 - j) 0) i with
    | true => true
    | false => !meetsT ops i j && !meetsT ops j i
  | false => false
theorem quietM_eq (ops : Array Oper) : quietM ops = quietOps ops := by
  unfold quietM quietOps
  cases he : edgesOk ops with
  | false => rfl
  | true =>
    have hm := masks_rel he
    simp only [Bool.true_and]
    refine all_mem fun j hj => all_mem fun i hi => ?_
    have hb := hm.2.2 j (by simpa using hj) i
    rw [tb_eq, hb]
    cases ((depsL ops).getD j []).contains i <;> rfl
noncomputable def quick (ops : Array Oper) (es : List (Nat × Eff)) : Bool := quietM ops && es.all fun p => isVal ops p.2

theorem quick_chk {ops : Array Oper} {base n : Nat} {es : List (Nat × Eff)} (hq : quick ops es = true) (hn : n ≤ ops.size) (he : es.map (·.1) = List.range n) : chkAll ops base (depsL ops) es = true ∧ edgesOk ops = true ∧ lastNw es = 0 := by
  unfold quick at hq
  rw [Bool.and_eq_true, quietM_eq] at hq
  have hv : ∀ p ∈ es, isVal ops p.2 = true := fun p hp => List.all_eq_true.1 hq.2 p hp
  refine ⟨chk_val rfl hq.1 es hv (by rw [he]; exact List.pairwise_lt_range) fun p hp => ?_, ?_, lastNw_val es hv⟩
  · have : p.1 ∈ es.map (·.1) := List.mem_map.2 ⟨p, hp, rfl⟩
    rw [he] at this
    have := List.mem_range.1 this
    omega
  · have := hq.1
    unfold quietOps at this
    simp only [Bool.and_eq_true] at this
    exact this.1

noncomputable def chk2 (ops : Array Oper) (n0 : Nat) (es : List (Nat × Eff)) : Bool :=
  match quick ops es with
  | true => true
  | false => chkM ops n0 es
theorem chk2_eq {ops : Array Oper} {n0 n : Nat} {es : List (Nat × Eff)} (hn : n ≤ ops.size) (he : es.map (·.1) = List.range n) : chk2 ops n0 es = (chkAll ops n0 (depsL ops) es && edgesOk ops) := by
  unfold chk2
  cases hq : quick ops es with
  | true =>
    obtain ⟨h1, h2, _⟩ := quick_chk (base := n0) hq hn he
    rw [h1, h2]
    rfl
  | false =>
    refine chkM_eq fun p hp => ?_
    have : p.1 ∈ es.map (·.1) := List.mem_map.2 ⟨p, hp, rfl⟩
    rw [he] at this
    have := List.mem_range.1 this
    omega

/-- The end of a drawn part. -/
noncomputable def cutR (ops : Array Oper) (n0 : Nat) (es : List (Nat × Eff)) (H : Hm) : Option Hm :=
  if hc : (chk2 ops n0 es && (H.deadFrom (n0 + lastNw es)) && Nat.ble (n0 + lastNw es) H.n) = true then
    some (H.cut (n0 + lastNw es) (by simp only [Bool.and_eq_true] at hc; rw [← H.hn]; exact Nat.le_of_ble_eq_true hc.2) (by simp only [Bool.and_eq_true] at hc; rw [← Hm.deadFrom_eq]; exact hc.1.2))
  else none
theorem cutR_eq (ops : Array Oper) (n0 : Nat) (es : List (Nat × Eff)) (H : Hm) {n : Nat} (hn : n ≤ ops.size) (he : es.map (·.1) = List.range n) : (cutR ops n0 es H).map Hm.l = if chkAll ops n0 (depsL ops) es && edgesOk ops && (H.l.drop (n0 + lastNw es)).all isDead && decide (n0 + lastNw es ≤ H.l.length) then some (H.l.take (n0 + lastNw es)) else none := by
  unfold cutR
  have h1 : Nat.ble (n0 + lastNw es) H.n = decide (n0 + lastNw es ≤ H.l.length) := by
    rw [← H.hn]
    by_cases h : n0 + lastNw es ≤ H.n
    · rw [decide_eq_true h]; exact Nat.ble_eq_true_of_le h
    · rw [decide_eq_false h]
      cases hb : Nat.ble (n0 + lastNw es) H.n with
      | false => rfl
      | true => exact absurd (Nat.le_of_ble_eq_true hb) h
  split
  · rename_i hc
    rw [chk2_eq hn he, Hm.deadFrom_eq, h1] at hc
    rw [if_pos hc]
    rfl
  · rename_i hc
    rw [chk2_eq hn he, Hm.deadFrom_eq, h1] at hc
    rw [if_neg hc]
    rfl

noncomputable def drawRun2 (O : Oracle2) (E : Env) (fn : FuncId) (ops : Array Oper) (s : FS2) : Option FS2 :=
  match drun2 O E fn ops.toList s.H.n ops.toList 0 s.t (s.H.pad ops.size) with
  | some (es, t, H) => (cutR ops s.H.n es H).map fun H' => ⟨t, H', s.D⟩
  | none => none
theorem drawRun2_eq {O2 : Oracle2} {O : Oracle} (hO : Like O2 O) (E : Env) (fn : FuncId) (ops : Array Oper) (s : FS2) : (drawRun2 O2 E fn ops s).map FS2.abs = drawRun O E fn ops s.abs := by
  unfold drawRun2 drawRun
  have h := drun2_eq hO E fn ops s.H.n ops.toList 0 s.t (s.H.pad ops.size) fun j o hj => by simpa using hj
  have e1 : List.range' 0 ops.toList.length = List.range ops.size := by simp [List.range_eq_range']
  rw [e1] at h
  show _ = (match drun O E fn ops s.H.l.length (List.range ops.size) s.t.l (s.H.l ++ List.replicate ops.size .dead) with
    | some (es, t, H) => _
    | none => none)
  rw [show (s.H.pad ops.size).l = s.H.l ++ List.replicate ops.size .dead from rfl, s.H.hn] at h
  rw [← h, s.H.hn]
  cases hdr : drun2 O2 E fn ops.toList s.H.l.length ops.toList 0 s.t (s.H.pad ops.size) with
  | none => rfl
  | some p =>
    obtain ⟨es, t, H⟩ := p
    rw [hdr] at h
    have hc := cutR_eq ops s.H.l.length es H (Nat.le_refl _) (drun_fst _ h.symm)
    simp only [Option.map_some, dabs]
    show Option.map _ (Option.map _ (cutR ops s.H.l.length es H)) = if _ then some (⟨t.l, H.l.take (s.H.l.length + lastNw es), s.D⟩ : FS) else none
    split
    · rename_i hh
      rw [if_pos (by exact hh)] at hc
      cases hx : cutR ops s.H.l.length es H with
      | none => rw [hx] at hc; cases hc
      | some H' =>
        rw [hx] at hc
        simp only [Option.map_some, Option.some.injEq] at hc
        simp [FS2.abs, hc]
    · rename_i hh
      rw [if_neg (by exact hh)] at hc
      cases hx : cutR ops s.H.l.length es H with
      | none => rfl
      | some H' => rw [hx] at hc; cases hc
end Go.Proofs.Ytmmabdpmeijgmaa.AM
