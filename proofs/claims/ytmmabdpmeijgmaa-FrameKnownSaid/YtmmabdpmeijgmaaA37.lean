/- The machine on trees: code, functions, what it does with so much fuel. -/
import Derived.Test.YtmmabdpmeijgmaaA36
namespace Go.Proofs.Ytmmabdpmeijgmaa.AM
open Go

noncomputable def drawTail2 (O : Oracle2) (E : Env) (fn : FuncId) (rd : Bool) (ops : Array Oper) (s : FS2) : Option (Ex × FS2) :=
  match drun2 O E fn ops.toList s.H.n (ops.toList.take (ops.size - 1)) 0 s.t (s.H.pad ops.size) with
  | some (es, t, H) => (cutR ops s.H.n es H).bind fun H' => match ops[ops.size - 1]? with
    | some o => ops2 O E fn rd ops.toList [o] ⟨t, H', s.D⟩
    | none => some (.normal, ⟨t, H', s.D⟩)
  | none => none

theorem opsRun_one (O : Oracle) (E : Env) (fn : FuncId) (rd : Bool) (ops : Array Oper) (i : Nat) (s : FS) : opsRun O E fn rd ops [i] s = match ops[i]? with
    | some o => opsL O E fn rd ops [o] s
    | none => some (.normal, s) := by
  unfold opsRun
  cases ops[i]? with
  | none => rfl
  | some o =>
    simp only [opsL]
    cases wantedA ops s.tmps o with
    | none => rfl
    | some b => cases b with
      | true =>
        simp only []
        cases opRun O E fn rd o s with
        | none => rfl
        | some r => cases r <;> rfl
      | false => rfl

theorem drawTail2_eq {O2 : Oracle2} {O : Oracle} (hO : Like O2 O) (E : Env) (fn : FuncId) (rd : Bool) (ops : Array Oper) (s : FS2) : (drawTail2 O2 E fn rd ops s).map xabs = drawTail O E fn rd ops s.abs := by
  unfold drawTail2 drawTail
  have h := drun2_eq hO E fn ops s.H.n (ops.toList.take (ops.size - 1)) 0 s.t (s.H.pad ops.size) fun j o hj => by
    rw [List.getElem?_take] at hj
    split at hj
    · simpa using hj
    · cases hj
  have e1 : List.range' 0 (ops.toList.take (ops.size - 1)).length = List.range (ops.size - 1) := by
    rw [List.range_eq_range']
    congr 1
    simp
  rw [e1] at h
  show _ = (match drun O E fn ops s.H.l.length (List.range (ops.size - 1)) s.t.l (s.H.l ++ List.replicate ops.size .dead) with
    | some (es, t, H) => _
    | none => none)
  rw [show (s.H.pad ops.size).l = s.H.l ++ List.replicate ops.size .dead from rfl, s.H.hn] at h
  rw [← h, s.H.hn]
  cases hdr : drun2 O2 E fn ops.toList s.H.l.length (ops.toList.take (ops.size - 1)) 0 s.t (s.H.pad ops.size) with
  | none => rfl
  | some p =>
    obtain ⟨es, t, H⟩ := p
    rw [hdr] at h
    have hc := cutR_eq ops s.H.l.length es H (Nat.sub_le _ 1) (drun_fst _ h.symm)
    simp only [Option.map_some, dabs]
    show Option.map _ (Option.bind (cutR ops s.H.l.length es H) _) = if (chkAll ops s.H.l.length (depsL ops) es && edgesOk ops && (H.l.drop (s.H.l.length + lastNw es)).all isDead && decide (s.H.l.length + lastNw es ≤ H.l.length)) = true then opsRun O E fn rd ops [ops.size - 1] (⟨t.l, H.l.take (s.H.l.length + lastNw es), s.D⟩ : FS) else none
    by_cases hh : (chkAll ops s.H.l.length (depsL ops) es && edgesOk ops && (H.l.drop (s.H.l.length + lastNw es)).all isDead && decide (s.H.l.length + lastNw es ≤ H.l.length)) = true
    · rw [if_pos hh] at hc ⊢
      cases hx : cutR ops s.H.l.length es H with
      | none => rw [hx] at hc; cases hc
      | some H' =>
        rw [hx] at hc
        simp only [Option.map_some, Option.some.injEq] at hc
        rw [opsRun_one]
        simp only [Option.bind_some]
        cases ops[ops.size - 1]? with
        | none => simp [xabs, FS2.abs, hc]
        | some o =>
          simp only []
          rw [ops2_eq hO E fn rd ops [o]]
          simp [FS2.abs, hc]
    · rw [if_neg hh] at hc ⊢
      cases hx : cutR ops s.H.l.length es H with
      | none => rfl
      | some H' => rw [hx] at hc; cases hc

noncomputable def range2 (O : Oracle2) (E : Env) (fn : FuncId) (g : Operand) (ps : Array Tmp) (asg body : Code) (s : FS2) : Option (Ex × FS2) :=
  match evT2 s.t g with
  | some (.fn (.func f) xs ys) =>
    match O.call f (xs ++ [.yld s.H.n] ++ ys) (s.H.push (.loop .ready none (fn, E.nf) (s.t.toL.map unBox) ps asg body)) with
    | some (.ret _ H2) => match H2.at s.H.n with
      | some (.loop .ready pend _ _ _ _ _) => (match pend with
        | none => some (.normal, ⟨s.t, H2.set s.H.n .dead, .mark :: s.D⟩)
        | some .ret => some (.ret, ⟨s.t, H2.set s.H.n .dead, .mark :: s.D⟩)
        | some (.exit i) => some (.exit i, ⟨s.t, H2.set s.H.n .dead, .mark :: s.D⟩)
        | _ => none)
      | some (.loop .done pend _ _ _ _ _) => (match pend with
        | none => some (.normal, ⟨s.t, H2.set s.H.n .dead, .mark :: s.D⟩)
        | some .ret => some (.ret, ⟨s.t, H2.set s.H.n .dead, .mark :: s.D⟩)
        | some (.exit i) => some (.exit i, ⟨s.t, H2.set s.H.n .dead, .mark :: s.D⟩)
        | _ => none)
      | _ => none
    | some (.pan v H2) => some (.panic v, ⟨s.t, H2, .mark :: s.D⟩)
    | none => none
  | _ => none

theorem range2_eq {O2 : Oracle2} {O : Oracle} (hO : Like O2 O) (E : Env) (fn : FuncId) (g : Operand) (ps : Array Tmp) (asg body : Code) (s : FS2) : (range2 O2 E fn g ps asg body s).map xabs = rangeRun O E fn g ps asg body s.abs := by
  unfold range2 rangeRun
  rw [evT2_eq, Tm.toL_eq, s.H.hn]
  show _ = (match evT s.t.l g with
    | some (.fn (.func f) xs ys) => _
    | _ => none)
  cases evT s.t.l g with
  | none => rfl
  | some v =>
    cases v with
    | fn f xs ys =>
      cases f with
      | func f =>
        simp only []
        have h := hO.call f (xs ++ [.yld s.H.l.length] ++ ys) (s.H.push (.loop .ready none (fn, E.nf) (s.t.l.map unBox) ps asg body))
        show _ = (match O.call f (xs ++ [.yld s.H.l.length] ++ ys) (s.H.push (.loop .ready none (fn, E.nf) (s.t.l.map unBox) ps asg body)).l with
          | some (.ret _ H2) => _
          | some (.pan v H2) => _
          | none => none)
        rw [← h]
        cases O2.call f (xs ++ [.yld s.H.l.length] ++ ys) (s.H.push (.loop .ready none (fn, E.nf) (s.t.l.map unBox) ps asg body)) with
        | none => rfl
        | some r => cases r with
          | pan v H2 => rfl
          | ret v H2 =>
            simp only [Option.map_some, CR2.abs, Hm.at_eq]
            show _ = (match H2.l[s.H.l.length]? with
              | some (.loop .ready pend _ _ _ _ _) => _
              | some (.loop .done pend _ _ _ _ _) => _
              | _ => none)
            cases H2.l[s.H.l.length]? with
            | none => rfl
            | some o =>
              cases o with
              | loop st pend p tm ps' asg' body' =>
                cases st with
                | ready => cases pend with
                  | none => rfl
                  | some c => cases c <;> rfl
                | done => cases pend with
                  | none => rfl
                  | some c => cases c <;> rfl
                | busy => rfl
                | exhausted => rfl
              | _ => rfl
      | _ => rfl
    | _ => rfl

noncomputable def execC2 (O : Oracle2) (E : Env) (fn : FuncId) (rd : Bool) : Code → FS2 → Option (Ex × FS2)
  | .skip, s => some (.normal, s)
  | .label _, s => some (.normal, s)
  | .region _ ops draw, s => if draw then (if tailOk ops then drawTail2 O E fn rd ops s else (drawRun2 O E fn ops s).map fun s' => (.normal, s')) else ops2 O E fn rd ops.toList ops.toList s
  | .seq x y, s => match execC2 O E fn rd x s with
    | some (.normal, s1) => execC2 O E fn rd y s1
    | r => r
  | .cond c x y, s => match evT2 s.t c with
    | some (.lit (.bool true)) => execC2 O E fn rd x s
    | some (.lit (.bool false)) => execC2 O E fn rd y s
    | _ => none
  | .block id b, s => match execC2 O E fn rd b s with
    | some (.exit i, s1) => some (if i = id then .normal else .exit i, s1)
    | r => r
  | .loop b, s => O.loop fn rd b s
  | .exit id, s => some (.exit id, s)
  | .ret, s => some (.ret, s)
  | .rangeFunc g ps asg body, s => if rd then none else range2 O E fn g ps asg body s
  | .scope b, s => execC2 O E fn rd b s
  | _, _ => none

theorem execC2_eq {O2 : Oracle2} {O : Oracle} (hO : Like O2 O) (E : Env) (fn : FuncId) (rd : Bool) : ∀ (c : Code) (s : FS2), (execC2 O2 E fn rd c s).map xabs = execC O E fn rd c s.abs := by
  intro c
  induction c with
  | skip => intro s; rfl
  | label l => intro s; rfl
  | region id ops draw =>
    intro s
    unfold execC2 execC
    cases draw with
    | true =>
      simp only [if_true, drawX]
      split
      · exact drawTail2_eq hO E fn rd ops s
      · rw [← drawRun2_eq hO]
        cases drawRun2 O2 E fn ops s <;> rfl
    | false =>
      simp only [Bool.false_eq_true, if_false]
      rw [opsL_range]
      exact ops2_eq hO E fn rd ops ops.toList s
  | seq x y ihx ihy =>
    intro s
    unfold execC2 execC
    rw [← ihx s]
    cases execC2 O2 E fn rd x s with
    | none => rfl
    | some p =>
      obtain ⟨ex, s1⟩ := p
      cases ex with
      | normal => exact ihy s1
      | _ => rfl
  | cond c x y ihx ihy =>
    intro s
    unfold execC2 execC
    rw [evT2_eq]
    show _ = (match evT s.t.l c with
      | some (.lit (.bool true)) => _
      | some (.lit (.bool false)) => _
      | _ => none)
    cases evT s.t.l c with
    | none => rfl
    | some v =>
      cases v with
      | lit v => cases v with
        | bool b => cases b with
          | true => exact ihx s
          | false => exact ihy s
        | _ => rfl
      | _ => rfl
  | block id b ih =>
    intro s
    unfold execC2 execC
    rw [← ih s]
    cases execC2 O2 E fn rd b s with
    | none => rfl
    | some p =>
      obtain ⟨ex, s1⟩ := p
      cases ex <;> rfl
  | loop b ih => intro s; exact hO.loop fn rd b s
  | exit id => intro s; rfl
  | ret => intro s; rfl
  | rangeFunc g ps asg body iha ihb =>
    intro s
    unfold execC2 execC
    cases rd with
    | true => rfl
    | false => exact range2_eq hO E fn g ps asg body s
  | scope b ih => intro s; exact ih s
  | goto l => intro s; rfl
  | refuse y => intro s; rfl

noncomputable def execL2 (O : Oracle2) (E : Env) (fn : FuncId) (rd : Bool) (b : Code) (s : FS2) : Option (Ex × FS2) :=
  match execC2 O E fn rd b s with
  | some (.normal, s1) => O.loop fn rd b s1
  | r => r
theorem execL2_eq {O2 : Oracle2} {O : Oracle} (hO : Like O2 O) (E : Env) (fn : FuncId) (rd : Bool) (b : Code) (s : FS2) : (execL2 O2 E fn rd b s).map xabs = execL O E fn rd b s.abs := by
  unfold execL2 execL
  rw [← execC2_eq hO E fn rd b s]
  cases execC2 O2 E fn rd b s with
  | none => rfl
  | some p =>
    obtain ⟨ex, s1⟩ := p
    cases ex with
    | normal => exact hO.loop fn rd b s1
    | _ => rfl

noncomputable def resVar2 (ti : TI) (t : Tm) (H : Hm) : ResultVar → Option AV
  | .tmp i => evT2 t (.tmp i)
  | .cell a ty => (evA2 t (.tmp a)).bind fun ad => (aLoad ti (mOf2 t H) ty ad).map Eff.v
theorem resVar2_eq (ti : TI) (t : Tm) (H : Hm) : resVar2 ti t H = resVar ti t.l H.l := by
  funext r
  cases r with
  | tmp i => simp only [resVar2, resVar, evT2_eq]
  | cell a ty =>
    simp only [resVar2, resVar, evA2_eq, mOf2_eq]
    cases evA t.l (.tmp a) with
    | none => rfl
    | some ad =>
      show Option.map Eff.v (aLoad ti (mOf t.l H.l) ty ad) = Option.bind (aLoad ti (mOf t.l H.l) ty ad) _
      cases aLoad ti (mOf t.l H.l) ty ad <;> rfl

noncomputable def leave2 (E : Env) (fns : FuncId → Option Func) (rs : List ResultVar) (t : Tm) (H : Hm) : List ADef → LM → Option CR2
  | [], .ret => (rs.mapM (resVar2 E.ti t H)).map fun vs => .ret (packA vs) H
  | [], .pan v => some (.pan v H)
  | .mark :: D, m => leave2 E fns rs t H D m
  | .call f args :: D, m => match deferRun E fns f args H.l (psOf m) with
    | some (H', p') => leave2 E fns rs t (Hm.ofL H') D (lmOf p')
    | none => none
theorem leave2_eq (E : Env) (fns : FuncId → Option Func) (rs : List ResultVar) (t : Tm) : ∀ (D : List ADef) (m : LM) (H : Hm), (leave2 E fns rs t H D m).map CR2.abs = leaveD E fns rs t.l H.l D m := by
  intro D
  induction D with
  | nil =>
    intro m H
    cases m with
    | ret =>
      simp only [leave2, leaveD, resVar2_eq]
      cases rs.mapM (resVar E.ti t.l H.l) <;> rfl
    | pan v => rfl
  | cons d D ih =>
    intro m H
    cases d with
    | mark => cases m <;> exact ih _ H
    | call f args =>
      have h1 : leave2 E fns rs t H (.call f args :: D) m = match deferRun E fns f args H.l (psOf m) with
        | some (H', p') => leave2 E fns rs t (Hm.ofL H') D (lmOf p')
        | none => none := by cases m <;> rfl
      have h2 : leaveD E fns rs t.l H.l (.call f args :: D) m = match deferRun E fns f args H.l (psOf m) with
        | some (H', p') => leaveD E fns rs t.l H' D (lmOf p')
        | none => none := by cases m <;> rfl
      rw [h1, h2]
      cases deferRun E fns f args H.l (psOf m) with
      | none => rfl
      | some p =>
        obtain ⟨H', p'⟩ := p
        have := ih (lmOf p') (Hm.ofL H')
        rw [Hm.ofL_eq] at this
        exact this

noncomputable def callF2 (O : Oracle2) (E : Env) (fns : FuncId → Option Func) (f : FuncId) (args : List AV) (H : Hm) : Option CR2 :=
  match fns f with
  | none => none
  | some fn => match fn.body with
    | none => none
    | some body => match execC2 O E f false body ⟨Tm.frame args fn.ntmps, H, []⟩ with
      | some (.normal, s1) => leave2 E fns fn.results.toList s1.t s1.H s1.D .ret
      | some (.ret, s1) => leave2 E fns fn.results.toList s1.t s1.H s1.D .ret
      | some (.panic v, s1) => leave2 E fns fn.results.toList s1.t s1.H s1.D (.pan v)
      | _ => none
theorem callF2_eq {O2 : Oracle2} {O : Oracle} (hO : Like O2 O) (E : Env) (fns : FuncId → Option Func) (f : FuncId) (args : List AV) (H : Hm) : (callF2 O2 E fns f args H).map CR2.abs = callF O E fns f args H.l := by
  unfold callF2 callF
  cases fns f with
  | none => rfl
  | some fn =>
    simp only []
    cases fn.body with
    | none => rfl
    | some body =>
      simp only []
      have h := execC2_eq hO E f false body ⟨Tm.frame args fn.ntmps, H, []⟩
      rw [show (⟨Tm.frame args fn.ntmps, H, []⟩ : FS2).abs = ⟨args ++ List.replicate (fn.ntmps - args.length) undefAV, H.l, []⟩ from rfl] at h
      rw [← h]
      cases execC2 O2 E f false body ⟨Tm.frame args fn.ntmps, H, []⟩ with
      | none => rfl
      | some p =>
        obtain ⟨ex, s1⟩ := p
        cases ex with
        | normal => exact leave2_eq E fns _ s1.t s1.D .ret s1.H
        | ret => exact leave2_eq E fns _ s1.t s1.D .ret s1.H
        | panic v => exact leave2_eq E fns _ s1.t s1.D (.pan v) s1.H
        | exit i => rfl

/-- What is known of calls, for an empty memory. -/
abbrev Orc0 := FuncId → List AV → Option CR

noncomputable def orc2 (N : Orc0) (f : FuncId) (args : List AV) (H : Hm) : Option CR2 :=
  @Nat.rec (fun _ => Option CR2) ((N f args).map fun r => match r with
    | .ret v H' => .ret v (Hm.ofL H')
    | .pan v H' => .pan v (Hm.ofL H')) (fun _ _ => none) H.n
def orcL (N : Orc0) : Orc := fun f args H => match H with
  | [] => N f args
  | _ :: _ => none
theorem orc2_eq (N : Orc0) (f : FuncId) (args : List AV) (H : Hm) : (orc2 N f args H).map CR2.abs = orcL N f args H.l := by
  unfold orc2 orcL
  have hn := H.hn
  cases hl : H.l with
  | nil =>
    rw [hl] at hn
    rw [hn]
    show Option.map _ (Option.map _ (N f args)) = N f args
    cases N f args with
    | none => rfl
    | some r => cases r <;> simp [CR2.abs, Hm.ofL_eq]
  | cons o l =>
    rw [hl] at hn
    rw [hn]
    rfl

noncomputable def step2 (N : Orc0) (E : Env) (fns : FuncId → Option Func) (O : Oracle2) : Oracle2 where
  call := fun f args H => match orc2 N f args H with
    | some r => some r
    | none => callF2 O E fns f args H
  code := execC2 O E
  loop := execL2 O E

noncomputable def run2 (N : Orc0) (E : Env) (fns : FuncId → Option Func) (n : Nat) : Oracle2 :=
  @Nat.rec (fun _ => Oracle2) ⟨fun _ _ _ => none, fun _ _ _ _ => none, fun _ _ _ _ => none⟩ (fun _ O => step2 N E fns O) n

theorem run2_like (N : Orc0) (E : Env) (fns : FuncId → Option Func) : ∀ n, Like (run2 N E fns n) (run (orcL N) E fns n)
  | 0 => ⟨fun _ _ _ => rfl, fun _ _ _ _ => rfl, fun _ _ _ _ => rfl⟩
  | n + 1 => by
    have ih := run2_like N E fns n
    refine ⟨fun f args H => ?_, fun fn rd c s => execC2_eq ih E fn rd c s, fun fn rd c s => execL2_eq ih E fn rd c s⟩
    show Option.map CR2.abs (match orc2 N f args H with
      | some r => some r
      | none => callF2 (run2 N E fns n) E fns f args H) = (match orcL N f args H.l with
      | some r => some r
      | none => callF (run (orcL N) E fns n) E fns f args H.l)
    rw [← orc2_eq]
    cases orc2 N f args H with
    | none => exact callF2_eq ih E fns f args H
    | some r => rfl

/-- What the machine on trees says, the machine says. -/
theorem run2_call {N : Orc0} {E : Env} {fns : FuncId → Option Func} {n : Nat} {f : FuncId} {args : List AV} {v : AV} {H : Hm} (h : (run2 N E fns n).call f args Hm.nil = some (.ret v H)) : (run (orcL N) E fns n).call f args [] = some (.ret v H.l) := by
  have := (run2_like N E fns n).call f args Hm.nil
  rw [h] at this
  exact this.symm
end Go.Proofs.Ytmmabdpmeijgmaa.AM
