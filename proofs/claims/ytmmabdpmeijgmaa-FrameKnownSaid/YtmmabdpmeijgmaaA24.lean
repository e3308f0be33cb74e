/- The machine by itself: the limit of what it does with more and more fuel. -/
import Derived.Test.YtmmabdpmeijgmaaA23
namespace Go.Proofs.Ytmmabdpmeijgmaa.AM
open Go

def step1 (N : Orc) (E : Env) (fns : FuncId → Option Func) (O : Oracle) : Oracle where
  call := fun f args H => match N f args H with
    | some r => some r
    | none => callF O E fns f args H
  code := execC O E
  loop := execL O E

def run (N : Orc) (E : Env) (fns : FuncId → Option Func) : Nat → Oracle
  | 0 => ⟨fun _ _ _ => none, fun _ _ _ _ => none, fun _ _ _ _ => none⟩
  | n + 1 => step1 N E fns (run N E fns n)

structure Oracle.le (O O' : Oracle) : Prop where
  call : ∀ f args H r, O.call f args H = some r → O'.call f args H = some r
  code : ∀ fn rd c s r, O.code fn rd c s = some r → O'.code fn rd c s = some r
  loop : ∀ fn rd c s r, O.loop fn rd c s = some r → O'.loop fn rd c s = some r

structure IsLim (c : Nat → Oracle) (L : Oracle) : Prop where
  mono : ∀ n m, n ≤ m → (c n).le (c m)
  call : ∀ f args H r, L.call f args H = some r → ∃ n, (c n).call f args H = some r
  code : ∀ fn rd x s r, L.code fn rd x s = some r → ∃ n, (c n).code fn rd x s = some r
  loop : ∀ fn rd x s r, L.loop fn rd x s = some r → ∃ n, (c n).loop fn rd x s = some r

/-- It asks finitely often. -/
structure Cts {α : Type} (F : Oracle → Option α) : Prop where
  mono : ∀ {O O' : Oracle}, O.le O' → ∀ {r}, F O = some r → F O' = some r
  cont : ∀ {c : Nat → Oracle} {L : Oracle}, IsLim c L → ∀ {r}, F L = some r → ∃ n, F (c n) = some r

theorem Cts.const {α : Type} (x : Option α) : Cts fun _ => x := ⟨fun _ _ h => h, fun _ _ h => ⟨0, h⟩⟩

theorem Cts.on {α β : Type} {F : Oracle → Option β} (K : Option β → Oracle → Option α) (hF : Cts F) (hn : ∀ O, K none O = none) (hs : ∀ x, Cts (K (some x))) : Cts fun O => K (F O) O where
  mono := fun {O O'} h {r} hk => by
    have hk : K (F O) O = some r := hk
    show K (F O') O' = some r
    cases hx : F O with
    | none => rw [hx, hn] at hk; cases hk
    | some x => rw [hx] at hk; rw [hF.mono h hx]; exact (hs x).mono h hk
  cont := fun {c L} h {r} hk => by
    have hk : K (F L) L = some r := hk
    show ∃ n, K (F (c n)) (c n) = some r
    cases hx : F L with
    | none => rw [hx, hn] at hk; cases hk
    | some x =>
      rw [hx] at hk
      obtain ⟨n1, h1⟩ := hF.cont h hx
      obtain ⟨n2, h2⟩ := (hs x).cont h hk
      refine ⟨max n1 n2, ?_⟩
      rw [hF.mono (h.mono _ _ (Nat.le_max_left _ _)) h1]
      exact (hs x).mono (h.mono _ _ (Nat.le_max_right _ _)) h2

theorem Cts.call (f : FuncId) (args : List AV) (H : List AObj) : Cts fun O => O.call f args H := ⟨fun {_ _} h {_} hx => h.call _ _ _ _ hx, fun {_ _} h {_} hx => h.call _ _ _ _ hx⟩
theorem Cts.code (fn : FuncId) (rd : Bool) (c : Code) (s : FS) : Cts fun O => O.code fn rd c s := ⟨fun {_ _} h {_} hx => h.code _ _ _ _ _ hx, fun {_ _} h {_} hx => h.code _ _ _ _ _ hx⟩
theorem Cts.loop (fn : FuncId) (rd : Bool) (c : Code) (s : FS) : Cts fun O => O.loop fn rd c s := ⟨fun {_ _} h {_} hx => h.loop _ _ _ _ _ hx, fun {_ _} h {_} hx => h.loop _ _ _ _ _ hx⟩
theorem Cts.map {α β : Type} {F : Oracle → Option α} (hF : Cts F) (g : α → β) : Cts fun O => (F O).map g :=
  Cts.on (fun x _ => x.map g) hF (fun _ => rfl) fun x => .const _
theorem Cts.bind {α β : Type} {F : Oracle → Option α} {G : α → Oracle → Option β} (hF : Cts F) (hG : ∀ x, Cts (G x)) : Cts fun O => (F O).bind fun x => G x O :=
  Cts.on (fun x O => x.bind fun y => G y O) hF (fun _ => rfl) hG
theorem Cts.ite {α : Type} {p : Prop} [Decidable p] {F G : Oracle → Option α} (hF : Cts F) (hG : Cts G) : Cts fun O => if p then F O else G O := by
  by_cases hp : p
  · simpa [hp] using hF
  · simpa [hp] using hG

section
variable {E : Env} {fns : FuncId → Option Func} {N : Orc}

theorem cts_pure (m : Loc → AObj) (f : FuncId) (args : List AV) : Cts fun O => aPure O.call m f args := by
  unfold aPure
  refine Cts.bind (.const _) fun p => ?_
  refine Cts.bind (Cts.call _ _ _) fun r => .const _

theorem cts_adopt (m : Loc → AObj) (k : Nat) (f : FuncId) (args : List AV) : Cts fun O => aAdopt O.call m k f args := by
  unfold aAdopt
  refine Cts.bind (.const _) fun p => ?_
  refine Cts.bind (Cts.call _ _ _) fun r => .const _

theorem cts_yield (dst : Option Nat) (id : Nat) (args : List AV) (s : FS) : Cts fun O => yieldRun O E dst id args s := by
  unfold yieldRun
  split
  · refine Cts.ite ?_ (.const _)
    rename_i pend fn nf tm ps asg body _
    refine Cts.on (fun (r : Option (Ex × FS)) (O : Oracle) => match r with
      | some (.normal, s1) =>
        match s1.H[id]?, s1.D with
        | some (.loop .ready pend1 fn1 tm1 ps1 asg1 body1), [] =>
          match O.code fn true body ⟨s1.tmps, s1.H.set id (.loop .busy pend1 fn1 tm1 ps1 asg1 body1), []⟩ with
          | some (.panic v, s2) => if s2.D.isEmpty then some (OpR.pan v ⟨s.tmps, s2.H, s.D⟩) else none
          | some (ex, s2) =>
            match s2.H[id]?, jumpOf ex with
            | some (.loop _ _ fn2 tm2 ps2 asg2 body2), some j =>
              some (OpR.next ⟨setD s.tmps dst (.lit (.bool j.isNone)), s2.H.set id (.loop (if j.isNone then .ready else .done) j fn2 tm2 ps2 asg2 body2), s.D⟩)
            | _, _ => none
          | none => none
        | _, _ => none
      | _ => none) (Cts.code _ _ _ _) (fun _ => rfl) fun x => ?_
    obtain ⟨ex, s1⟩ := x
    cases ex with
    | exit _ => exact .const _
    | ret => exact .const _
    | panic _ => exact .const _
    | normal =>
      simp only []
      split
      · exact Cts.on (fun (r : Option (Ex × FS)) (_ : Oracle) => match r with
          | some (.panic v, s2) => if s2.D.isEmpty then some (OpR.pan v ⟨s.tmps, s2.H, s.D⟩) else none
          | some (ex, s2) =>
            match s2.H[id]?, jumpOf ex with
            | some (.loop _ _ fn2 tm2 ps2 asg2 body2), some j =>
              some (OpR.next ⟨setD s.tmps dst (.lit (.bool j.isNone)), s2.H.set id (.loop (if j.isNone then .ready else .done) j fn2 tm2 ps2 asg2 body2), s.D⟩)
            | _, _ => none
          | none => none) (Cts.code _ _ _ _) (fun _ => rfl) fun x => .const _
      · exact .const _
  · exact .const _

theorem cts_callRun (dst : Option Nat) (f : FuncId) (args : List AV) (s : FS) : Cts fun O => callRun O E dst f args s := by
  unfold callRun
  refine Cts.ite ?_ ?_
  · refine Cts.on (fun (r : Option CR) (_ : Oracle) => match r with
      | some (.ret v H') => some (OpR.next ⟨setD s.tmps dst v, H', s.D⟩)
      | some (.pan v H') => some (.pan v ⟨s.tmps, H', s.D⟩)
      | none => none) (Cts.call _ _ _) (fun _ => rfl) fun x => .const _
  · refine Cts.ite (Cts.bind (cts_adopt _ _ _ _) fun _ => .const _) ?_
    split
    · rename_i fargs rd _
      exact Cts.on (fun (r : Option CR) (_ : Oracle) => match r with
        | some (.ret v H') => (match frz 20 (mOf [] H') v with
          | some (v', _) =>
            if rd.isEmpty || isSc v' || noAl (mOf [] H') v then some (OpR.next ⟨setD s.tmps dst v', s.H, s.D⟩)
            else some (.next ⟨setD (s.tmps.map (thaw (mOf s.tmps s.H) rd)) dst v', killH rd 0 s.H, s.D⟩)
          | none => none)
        | some (.pan v _) => if isSc v then some (.pan v s) else none
        | none => none) (Cts.call _ _ _) (fun _ => rfl) fun x => .const _
    · exact .const _

theorem cts_opRun (fn : FuncId) (rd : Bool) (o : Oper) (s : FS) : Cts fun O => opRun O E fn rd o s := by
  unfold opRun
  split
  · exact .const _
  · exact .const _
  · split
    · split
      · exact Cts.bind (.const _) fun _ => cts_callRun _ _ _ _
      · exact Cts.bind (.const _) fun _ => cts_yield _ _ _ _
      · exact .const _
    · exact .const _
    · exact .const _
  · exact .const _

theorem cts_opsRun (fn : FuncId) (rd : Bool) (ops : Array Oper) : ∀ (l : List Nat) (s : FS), Cts fun O => opsRun O E fn rd ops l s
  | [], s => .const _
  | i :: l, s => by
    unfold opsRun
    split
    · exact cts_opsRun fn rd ops l s
    · split
      · refine Cts.on (fun (r : Option OpR) (O : Oracle) => match r with
          | some (.next s') => opsRun O E fn rd ops l s'
          | some (.pan v s') => some (Ex.panic v, s')
          | none => none) (cts_opRun fn rd _ s) (fun _ => rfl) fun x => ?_
        cases x with
        | next s' => exact cts_opsRun fn rd ops l s'
        | pan v s' => exact .const _
      · exact Cts.ite (cts_opsRun fn rd ops l _) (.const _)
      · exact .const _

theorem cts_opEff (fn : FuncId) (k : Nat) (o : Oper) (tmps : List AV) (H : List AObj) : Cts fun O => opEff O E fn k o tmps H := by
  unfold opEff
  split
  · exact .const _
  · exact .const _
  · split
    · split
      · exact Cts.ite (.const _) (Cts.bind (.const _) fun _ => Cts.ite (cts_adopt _ _ _ _) (cts_pure _ _ _))
      · exact .const _
    · exact .const _
    · exact .const _
  · exact .const _

theorem cts_dstep (fn : FuncId) (ops : Array Oper) (base i : Nat) (tmps : List AV) (H : List AObj) : Cts fun O => dstep O E fn ops base i tmps H := by
  unfold dstep
  split
  · exact .const _
  · split
    · rename_i o _ _ _
      exact Cts.on (fun (r : Option Eff) (_ : Oracle) => match r with
        | some e => if okE e (base + i) o.dst tmps H then some e else none
        | none => none) (cts_opEff fn _ o tmps H) (fun _ => rfl) fun x => .const _
    · exact .const _
    · exact .const _

theorem cts_drun (fn : FuncId) (ops : Array Oper) (base : Nat) : ∀ (l : List Nat) (tmps : List AV) (H : List AObj), Cts fun O => drun O E fn ops base l tmps H
  | [], _, _ => .const _
  | i :: l, tmps, H => by
    unfold drun
    refine Cts.on (fun (r : Option Eff) (O : Oracle) => match r with
      | some e => (match drun O E fn ops base l (dT ops i e tmps) (dH base i e H) with
        | some (es, X) => some ((i, e) :: es, X)
        | none => none)
      | none => none) (cts_dstep fn ops base i tmps H) (fun _ => rfl) fun e => ?_
    exact Cts.on (fun (r : Option (List (Nat × Eff) × List AV × List AObj)) (_ : Oracle) => match r with
        | some (es, X) => some ((i, e) :: es, X)
        | none => none) (cts_drun fn ops base l _ _) (fun _ => rfl) fun x => .const _

theorem cts_draw (fn : FuncId) (ops : Array Oper) (s : FS) : Cts fun O => drawRun O E fn ops s := by
  unfold drawRun
  exact Cts.on (fun (r : Option (List (Nat × Eff) × List AV × List AObj)) (_ : Oracle) => match r with
    | some (es, t, H) => if chkAll ops s.H.length (depsL ops) es && edgesOk ops && (H.drop (s.H.length + lastNw es)).all isDead && decide (s.H.length + lastNw es ≤ H.length) then
        some (⟨t, H.take (s.H.length + lastNw es), s.D⟩ : FS)
      else none
    | none => none) (cts_drun fn ops _ _ _ _) (fun _ => rfl) fun x => .const _

theorem cts_tail (fn : FuncId) (rd : Bool) (ops : Array Oper) (s : FS) : Cts fun O => drawTail O E fn rd ops s := by
  unfold drawTail
  refine Cts.on (fun (r : Option (List (Nat × Eff) × List AV × List AObj)) (O : Oracle) => match r with
    | some (es, t, H) => if chkAll ops s.H.length (depsL ops) es && edgesOk ops && (H.drop (s.H.length + lastNw es)).all isDead && decide (s.H.length + lastNw es ≤ H.length) then
        opsRun O E fn rd ops [ops.size - 1] ⟨t, H.take (s.H.length + lastNw es), s.D⟩
      else none
    | none => none) (cts_drun fn ops _ _ _ _) (fun _ => rfl) fun x => ?_
  exact Cts.ite (cts_opsRun fn rd ops _ _) (.const _)

theorem cts_drawX (fn : FuncId) (rd : Bool) (ops : Array Oper) (s : FS) : Cts fun O => drawX O E fn rd ops s := by
  unfold drawX
  exact Cts.ite (cts_tail fn rd ops s) ((cts_draw fn ops s).map _)

theorem cts_range (fn : FuncId) (g : Operand) (ps : Array Tmp) (asg body : Code) (s : FS) : Cts fun O => rangeRun O E fn g ps asg body s := by
  unfold rangeRun
  split
  · exact Cts.on (fun (r : Option CR) (_ : Oracle) => match r with
    | some (.ret _ H2) => match H2[s.H.length]? with
      | some (.loop .ready pend _ _ _ _ _) => (match pend with
        | none => some (Ex.normal, (⟨s.tmps, H2.set s.H.length .dead, .mark :: s.D⟩ : FS))
        | some .ret => some (.ret, ⟨s.tmps, H2.set s.H.length .dead, .mark :: s.D⟩)
        | some (.exit i) => some (.exit i, ⟨s.tmps, H2.set s.H.length .dead, .mark :: s.D⟩)
        | _ => none)
      | some (.loop .done pend _ _ _ _ _) => (match pend with
        | none => some (.normal, ⟨s.tmps, H2.set s.H.length .dead, .mark :: s.D⟩)
        | some .ret => some (.ret, ⟨s.tmps, H2.set s.H.length .dead, .mark :: s.D⟩)
        | some (.exit i) => some (.exit i, ⟨s.tmps, H2.set s.H.length .dead, .mark :: s.D⟩)
        | _ => none)
      | _ => none
    | some (.pan v H2) => some (.panic v, ⟨s.tmps, H2, .mark :: s.D⟩)
    | none => none) (Cts.call _ _ _) (fun _ => rfl) fun x => .const _
  · exact .const _

theorem cts_exec (fn : FuncId) (rd : Bool) : ∀ (c : Code) (s : FS), Cts fun O => execC O E fn rd c s := by
  intro c
  induction c with
  | skip => exact fun s => .const _
  | label l => exact fun s => .const _
  | region id ops draw =>
    intro s
    unfold execC
    exact Cts.ite (cts_drawX fn rd ops s) (cts_opsRun fn rd ops _ s)
  | seq x y ihx ihy =>
    intro s
    unfold execC
    refine Cts.on (fun (r : Option (Ex × FS)) (O : Oracle) => match r with
      | some (.normal, s1) => execC O E fn rd y s1
      | r => r) (ihx s) (fun _ => rfl) fun p => ?_
    obtain ⟨ex, s1⟩ := p
    cases ex
    · exact ihy s1
    · exact .const _
    · exact .const _
    · exact .const _
  | cond c x y ihx ihy =>
    intro s
    unfold execC
    split
    · exact ihx s
    · exact ihy s
    · exact .const _
  | block id b ih =>
    intro s
    unfold execC
    exact Cts.on (fun (r : Option (Ex × FS)) (_ : Oracle) => match r with
      | some (.exit i, s1) => some (if i = id then .normal else .exit i, s1)
      | r => r) (ih s) (fun _ => rfl) fun p => .const _
  | loop b ih => intro s; unfold execC; exact Cts.loop _ _ _ _
  | exit id => exact fun s => .const _
  | ret => exact fun s => .const _
  | rangeFunc g ps asg body iha ihb =>
    intro s
    unfold execC
    exact Cts.ite (.const _) (cts_range fn g ps asg body s)
  | scope b ih => exact fun s => ih s
  | goto l => exact fun s => .const _
  | refuse y => exact fun s => .const _

theorem cts_loop (fn : FuncId) (rd : Bool) (b : Code) (s : FS) : Cts fun O => execL O E fn rd b s := by
  unfold execL
  refine Cts.on (fun (r : Option (Ex × FS)) (O : Oracle) => match r with
    | some (.normal, s1) => O.loop fn rd b s1
    | r => r) (cts_exec fn rd b s) (fun _ => rfl) fun p => ?_
  obtain ⟨ex, s1⟩ := p
  cases ex
  · exact Cts.loop _ _ _ _
  · exact .const _
  · exact .const _
  · exact .const _

theorem cts_callF (f : FuncId) (args : List AV) (H : List AObj) : Cts fun O => callF O E fns f args H := by
  unfold callF
  split
  · exact .const _
  · rename_i fn _
    split
    · exact .const _
    · exact Cts.on (fun (r : Option (Ex × FS)) (_ : Oracle) => match r with
        | some (.normal, s1) => leaveD E fns fn.results.toList s1.tmps s1.H s1.D .ret
        | some (.ret, s1) => leaveD E fns fn.results.toList s1.tmps s1.H s1.D .ret
        | some (.panic v, s1) => leaveD E fns fn.results.toList s1.tmps s1.H s1.D (.pan v)
        | _ => none) (cts_exec f false _ _) (fun _ => rfl) fun p => .const _

theorem cts_call1 (f : FuncId) (args : List AV) (H : List AObj) : Cts fun O => (step1 N E fns O).call f args H := by
  simp only [step1]
  split
  · exact .const _
  · exact cts_callF f args H

theorem step1_mono {O O' : Oracle} (h : O.le O') : (step1 N E fns O).le (step1 N E fns O') :=
  ⟨fun f args H _ hr => (cts_call1 f args H).mono h hr, fun fn rd c s _ hr => (cts_exec fn rd c s).mono h hr, fun fn rd c s _ hr => (cts_loop fn rd c s).mono h hr⟩

theorem run_succ (n : Nat) : (run N E fns n).le (run N E fns (n + 1)) := by
  induction n with
  | zero => exact ⟨fun _ _ _ _ h => (by cases h), fun _ _ _ _ _ h => (by cases h), fun _ _ _ _ _ h => (by cases h)⟩
  | succ n ih => exact step1_mono ih

theorem le_trans {O O' O'' : Oracle} (h : O.le O') (h' : O'.le O'') : O.le O'' :=
  ⟨fun _ _ _ _ hr => h'.call _ _ _ _ (h.call _ _ _ _ hr), fun _ _ _ _ _ hr => h'.code _ _ _ _ _ (h.code _ _ _ _ _ hr), fun _ _ _ _ _ hr => h'.loop _ _ _ _ _ (h.loop _ _ _ _ _ hr)⟩

theorem run_mono (n m : Nat) (h : n ≤ m) : (run N E fns n).le (run N E fns m) := by
  induction h with
  | refl => exact ⟨fun _ _ _ _ h => h, fun _ _ _ _ _ h => h, fun _ _ _ _ _ h => h⟩
  | step _ ih => exact le_trans ih (run_succ _)

open Classical in
/-- What the machine does, with whatever fuel. -/
noncomputable def M (N : Orc) (E : Env) (fns : FuncId → Option Func) : Oracle where
  call := fun f args H => if h : ∃ r n, (run N E fns n).call f args H = some r then some h.choose else none
  code := fun fn rd c s => if h : ∃ r n, (run N E fns n).code fn rd c s = some r then some h.choose else none
  loop := fun fn rd c s => if h : ∃ r n, (run N E fns n).loop fn rd c s = some r then some h.choose else none

theorem run_uniq {n m : Nat} {α : Type} {F : Oracle → Option α} (hF : Cts F) {r r' : α} (h : F (run N E fns n) = some r) (h' : F (run N E fns m) = some r') : r = r' := by
  have h1 := hF.mono (run_mono (N := N) (E := E) (fns := fns) n (max n m) (Nat.le_max_left _ _)) h
  have h2 := hF.mono (run_mono (N := N) (E := E) (fns := fns) m (max n m) (Nat.le_max_right _ _)) h'
  rw [h1] at h2
  exact Option.some.inj h2

theorem M_call {f : FuncId} {args : List AV} {H : List AObj} {r : CR} : (M N E fns).call f args H = some r ↔ ∃ n, (run N E fns n).call f args H = some r := by
  simp only [M]
  constructor
  · intro h
    split at h
    · rename_i hx
      cases h
      exact hx.choose_spec
    · cases h
  · rintro ⟨n, hn⟩
    have hx : ∃ r n, (run N E fns n).call f args H = some r := ⟨r, n, hn⟩
    rw [dif_pos hx]
    obtain ⟨m, hm⟩ := hx.choose_spec
    exact congrArg some (run_uniq (Cts.call f args H) hm hn)

theorem M_code {fn : FuncId} {rd : Bool} {c : Code} {s : FS} {r : Ex × FS} : (M N E fns).code fn rd c s = some r ↔ ∃ n, (run N E fns n).code fn rd c s = some r := by
  simp only [M]
  constructor
  · intro h
    split at h
    · rename_i hx
      cases h
      exact hx.choose_spec
    · cases h
  · rintro ⟨n, hn⟩
    have hx : ∃ r n, (run N E fns n).code fn rd c s = some r := ⟨r, n, hn⟩
    rw [dif_pos hx]
    obtain ⟨m, hm⟩ := hx.choose_spec
    exact congrArg some (run_uniq (Cts.code fn rd c s) hm hn)

theorem M_loop {fn : FuncId} {rd : Bool} {c : Code} {s : FS} {r : Ex × FS} : (M N E fns).loop fn rd c s = some r ↔ ∃ n, (run N E fns n).loop fn rd c s = some r := by
  simp only [M]
  constructor
  · intro h
    split at h
    · rename_i hx
      cases h
      exact hx.choose_spec
    · cases h
  · rintro ⟨n, hn⟩
    have hx : ∃ r n, (run N E fns n).loop fn rd c s = some r := ⟨r, n, hn⟩
    rw [dif_pos hx]
    obtain ⟨m, hm⟩ := hx.choose_spec
    exact congrArg some (run_uniq (Cts.loop fn rd c s) hm hn)

theorem M_lim : IsLim (run N E fns) (M N E fns) :=
  ⟨run_mono, fun _ _ _ _ h => M_call.1 h, fun _ _ _ _ _ h => M_code.1 h, fun _ _ _ _ _ h => M_loop.1 h⟩

theorem run_le_M (n : Nat) : (run N E fns n).le (M N E fns) :=
  ⟨fun _ _ _ _ h => M_call.2 ⟨n, h⟩, fun _ _ _ _ _ h => M_code.2 ⟨n, h⟩, fun _ _ _ _ _ h => M_loop.2 ⟨n, h⟩⟩

theorem opt_ext {α : Type} {x y : Option α} (h : ∀ r, x = some r ↔ y = some r) : x = y := by
  cases x with
  | none => cases y with
    | none => rfl
    | some b => exact (h b).2 rfl
  | some a => exact ((h a).1 rfl).symm

/-- The machine's equations. -/
theorem M_call_eq (f : FuncId) (args : List AV) (H : List AObj) : (M N E fns).call f args H = (step1 N E fns (M N E fns)).call f args H := by
  refine opt_ext fun r => ⟨fun h => ?_, fun h => ?_⟩
  · obtain ⟨n, hn⟩ := M_call.1 h
    cases n with
    | zero => cases hn
    | succ n => exact (cts_call1 f args H).mono (run_le_M n) hn
  · obtain ⟨n, hn⟩ := (cts_call1 (N := N) (E := E) (fns := fns) f args H).cont M_lim h
    exact M_call.2 ⟨n + 1, hn⟩

theorem M_code_eq (fn : FuncId) (rd : Bool) (c : Code) (s : FS) : (M N E fns).code fn rd c s = execC (M N E fns) E fn rd c s := by
  refine opt_ext fun r => ⟨fun h => ?_, fun h => ?_⟩
  · obtain ⟨n, hn⟩ := M_code.1 h
    cases n with
    | zero => cases hn
    | succ n => exact (cts_exec fn rd c s).mono (run_le_M n) hn
  · obtain ⟨n, hn⟩ := (cts_exec (E := E) fn rd c s).cont (M_lim (N := N) (fns := fns)) h
    exact M_code.2 ⟨n + 1, hn⟩

theorem M_loop_eq (fn : FuncId) (rd : Bool) (c : Code) (s : FS) : (M N E fns).loop fn rd c s = execL (M N E fns) E fn rd c s := by
  refine opt_ext fun r => ⟨fun h => ?_, fun h => ?_⟩
  · obtain ⟨n, hn⟩ := M_loop.1 h
    cases n with
    | zero => cases hn
    | succ n => exact (cts_loop fn rd c s).mono (run_le_M n) hn
  · obtain ⟨n, hn⟩ := (cts_loop (E := E) fn rd c s).cont (M_lim (N := N) (fns := fns)) h
    exact M_loop.2 ⟨n + 1, hn⟩

theorem run_ok {P : Program} (hE : EnvOk P E) (hN : OrcOk P N) (hm : P.follows .mixedOrders = true) (hfns : FnsOk P fns) : ∀ n, OracleOk P (run N E fns n)
  | 0 => ⟨fun _ _ _ _ h => (by cases h), fun _ _ _ _ _ _ h => (by cases h), fun _ _ _ _ _ _ h => (by cases h)⟩
  | n + 1 => by
    have ih := run_ok hE hN hm hfns n
    refine ⟨fun f args H r h => ?_, fun fn rd c s ex s' h ro hro lo σ w a hr => execC_wp hE ih hm hro c h hr, fun fn rd c s ex s' h => execL_good hE ih hm h⟩
    simp only [run, step1] at h
    split at h
    · rename_i r' hr'
      cases h
      exact hN _ _ _ _ hr'
    · exact callF_good hE ih hm hfns h

theorem M_ok {P : Program} (hE : EnvOk P E) (hN : OrcOk P N) (hm : P.follows .mixedOrders = true) (hfns : FnsOk P fns) : OracleOk P (M N E fns) :=
  ⟨fun f args H r h => let ⟨n, hn⟩ := M_call.1 h; (run_ok hE hN hm hfns n).call f args H r hn,
   fun fn rd c s ex s' h => let ⟨n, hn⟩ := M_code.1 h; (run_ok hE hN hm hfns n).code fn rd c s ex s' hn,
   fun fn rd c s ex s' h => let ⟨n, hn⟩ := M_loop.1 h; (run_ok hE hN hm hfns n).loop fn rd c s ex s' hn⟩
end
end Go.Proofs.Ytmmabdpmeijgmaa.AM
