/- Code, loops over functions, calls of functions. -/
import Derived.Test.YtmmabdpmeijgmaaA21
import Derived.RangeFuncLeaves
namespace Go.Proofs.Ytmmabdpmeijgmaa.AM
open Go

/-- A frame's variables of its own are not seen in a round. -/
def unBox : AV → AV
  | .lbox _ => .dead
  | .lptr _ _ => .dead
  | v => v

def rangeRun (O : Oracle) (E : Env) (fn : FuncId) (g : Operand) (ps : Array Tmp) (asg body : Code) (s : FS) : Option (Ex × FS) :=
  match evT s.tmps g with
  | some (.fn (.func f) xs ys) =>
    match O.call f (xs ++ [.yld s.H.length] ++ ys) (s.H ++ [.loop .ready none (fn, E.nf) (s.tmps.map unBox) ps asg body]) with
    | some (.ret _ H2) => match H2[s.H.length]? with
      | some (.loop .ready pend _ _ _ _ _) => (match pend with
        | none => some (.normal, ⟨s.tmps, H2.set s.H.length .dead, .mark :: s.D⟩)
        | some .ret => some (.ret, ⟨s.tmps, H2.set s.H.length .dead, .mark :: s.D⟩)
        | some (.exit i) => some (.exit i, ⟨s.tmps, H2.set s.H.length .dead, .mark :: s.D⟩)
        | _ => none)
      | some (.loop .done pend _ _ _ _ _) => (match pend with
        | none => some (.normal, ⟨s.tmps, H2.set s.H.length .dead, .mark :: s.D⟩)
        | some .ret => some (.ret, ⟨s.tmps, H2.set s.H.length .dead, .mark :: s.D⟩)
        | some (.exit i) => some (.exit i, ⟨s.tmps, H2.set s.H.length .dead, .mark :: s.D⟩)
        | _ => none)
      | _ => none
    | some (.pan v H2) => some (.panic v, ⟨s.tmps, H2, .mark :: s.D⟩)
    | none => none
  | _ => none

def execC (O : Oracle) (E : Env) (fn : FuncId) (rd : Bool) : Code → FS → Option (Ex × FS)
  | .skip, s => some (.normal, s)
  | .label _, s => some (.normal, s)
  | .region _ ops draw, s => if draw then drawX O E fn rd ops s else opsRun O E fn rd ops (List.range ops.size) s
  | .seq x y, s => match execC O E fn rd x s with
    | some (.normal, s1) => execC O E fn rd y s1
    | r => r
  | .cond c x y, s => match evT s.tmps c with
    | some (.lit (.bool true)) => execC O E fn rd x s
    | some (.lit (.bool false)) => execC O E fn rd y s
    | _ => none
  | .block id b, s => match execC O E fn rd b s with
    | some (.exit i, s1) => some (if i = id then .normal else .exit i, s1)
    | r => r
  | .loop b, s => O.loop fn rd b s
  | .exit id, s => some (.exit id, s)
  | .ret, s => some (.ret, s)
  | .rangeFunc g ps asg body, s => if rd then none else rangeRun O E fn g ps asg body s
  | .scope b, s => execC O E fn rd b s
  | _, _ => none

/-- A round of a loop, and the rest of it. -/
def execL (O : Oracle) (E : Env) (fn : FuncId) (rd : Bool) (b : Code) (s : FS) : Option (Ex × FS) :=
  match execC O E fn rd b s with
  | some (.normal, s1) => O.loop fn rd b s1
  | r => r

section
variable {σ σ' σ2 : Sim} {h h' h2 : Hp} {w w' w2 : World} {P : Program} {E : Env} {O : Oracle} {tmps tmps' : List AV} {H H' H2 : List AObj} {A A2 : Nat → Prop} {a : Act} {s s' : FS} {ro : Option Nat} {lo : Nat} {fn : FuncId}

/-- A place elsewhere is laid. -/
theorem RH.other (hr : RH σ h w) (o : Obj) : Ext σ h w σ h (w.alloc o) ∧ RH σ h (w.alloc o) := by
  have x : Ext σ h w σ h (w.alloc o) := {
    os := rfl
    tape := rfl
    output := rfl
    size := by simp
    keep := fun b' hb' _ => heap_alloc_old _ _ _ hb'
    shape := fun b' arr' e' f' hb' => ⟨arr', f', by rw [heap_alloc_old _ _ _ (lt_of_heap hb')]; exact hb', rfl⟩
    al := fun _ ha => ha
    same := fun _ _ _ _ _ => rfl
    grow := fun _ L _ hL => ⟨L, hL, Nat.le_refl _⟩
    frozen := fun _ h => h
    fresh := fun _ h => .inl h
    new := fun _ _ h1 h2 => .inr ⟨h1, h2⟩ }
  refine ⟨x, fun l hl => ?_, hr.inj, fun b hb => ?_, hr.al⟩
  · obtain ⟨b, o', h1, h2, h3, h4⟩ := hr.obj l hl
    exact ⟨b, o', h1, by rw [heap_alloc_old _ _ _ (lt_of_heap h2)]; exact h2, obj_ext x hr h3, h4⟩
  · have := hr.F b hb; simp; omega

theorem hpA_new (tmps : List AV) (H : List AObj) (x : AObj) : (hpA tmps H (· < H.length)).new H.length x = hpA tmps (H ++ [x]) (· < (H ++ [x]).length) := by
  simp only [Hp.new, hpA]
  have h1 : ∀ i, (H ++ [x]).getD i .dead = if i = H.length then x else H.getD i .dead := fun i => by
    have := getD_setB (H := H) (H' := H ++ [x]) (k := H.length) (o := x) (by simp [setB]) i
    exact this
  congr 1
  · funext l
    cases l with
    | blk i => simp only [mOf, h1, Loc.blk.injEq]
    | box t => simp [mOf]
  · funext i
    simp
    omega

theorem unBox_rel (hr : RF σ (hpA tmps H A) w tmps a) : Rel σ (hpA tmps H A) w (tmps.map unBox) a.tmps := by
  refine ⟨by rw [hr.len, List.length_map], fun i c u hi hu => ?_⟩
  rw [List.getElem?_map, Option.map_eq_some_iff] at hi
  obtain ⟨c0, hc, rfl⟩ := hi
  have hv := hr.val i c0 u hc hu
  cases c0 <;> first | exact hv | exact .dead _

theorem CPost.andThen {s0 s1 : FS} {ex : Ex} (x : Ext σ (hpS s0) w σ' (hpS s) w') {c : Code} {ro : Option Nat} {lo : Nat} (hw : c.wpIn (fen P ro) 0 P (CPost lo σ' s w' ex s1) a w2) : c.wpIn (fen P ro) 0 P (CPost lo σ s0 w ex s1) a w2 :=
  wpIn_mono hw fun _ _ _ hc => hc.from x

theorem jump_wp {c : Code} {ex : Ex} (hj : (c = .ret ∧ ex = .ret) ∨ ∃ i, c = .exit i ∧ ex = .exit i) (hr : RS lo σ' s' w' a) (x : Ext σ (hpS s) w σ' (hpS s') w') :
    c.wpIn (fen P ro) 0 P (CPost lo σ s w ex s') a w' := by
  rcases hj with ⟨rfl, rfl⟩ | ⟨i, rfl, rfl⟩
  · exact wpIn_ret ⟨σ', trivial, hr, x⟩
  · exact wpIn_exit ⟨σ', rfl, hr, x⟩

theorem rangeRun_wp (hE : EnvOk P E) (hO : OracleOk P O) {g : Operand} {ps : Array Tmp} {asg body : Code} {ex : Ex} (he : rangeRun O E fn g ps asg body s = some (ex, s')) (hr : RS lo σ s w a) :
    (Code.rangeFunc g ps asg body).wpIn (fen P none) 0 P (CPost lo σ s w ex s') a w := by
  unfold rangeRun at he
  split at he
  case h_2 => cases he
  rename_i f xs ys hg
  cases hc : O.call f (xs ++ [.yld s.H.length] ++ ys) (s.H ++ [.loop .ready none (fn, E.nf) (s.tmps.map unBox) ps asg body]) with
  | none => rw [hc] at he; cases he
  | some cr =>
    rw [hc] at he
    obtain ⟨g1, g2⟩ := hO.call _ _ _ _ hc
    have h0 := evT_sound hr.rf hg
    generalize hu : a.eval g = u at h0
    cases h0 with
    | @fn _ _ _ vx vy sx sy v1 v2 =>
      refine wpIn_rangeFunc fun fn' hfn' => ?_
      have hfl : fn' < P.funcs.size := by
        have : (P.funcs[fn']?).isSome = true := hfn'
        simpa using this
      -- the block and the record
      obtain ⟨x1, hr1⟩ := RH.other hr.rf.heap (.deferred (some []))
      have rel := unBox_rel hr.rf
      have hno : ¬ (hpS s).al s.H.length := not_al s
      obtain ⟨x2, hr2⟩ := RH.allocO (x := .loop .ready none (fn, E.nf) (s.tmps.map unBox) ps asg body) (o := .loop { state := .ready, pending := none, fn := fn', tmps := a.tmps, params := ps, assign := asg, body, defers := w.heap.size }) hr1 hno
        ⟨rfl, rfl, by rw [hE.nf]; exact hfl, rfl, rfl, rfl, rel.1, fun i c u hi hu => (rel.2 i c u hi hu).ext x1 hr.rf.heap⟩
      have hnew := hpA_new s.tmps s.H (.loop .ready none (fn, E.nf) (s.tmps.map unBox) ps asg body)
      rw [show hpS s = hpA s.tmps s.H (· < s.H.length) from rfl] at x2 hr2
      rw [hnew] at x2 hr2
      obtain ⟨H1, hH1⟩ : ∃ H1, H1 = s.H ++ [.loop .ready none (fn, E.nf) (s.tmps.map unBox) ps asg body] := ⟨_, rfl⟩
      rw [← hH1] at x2 hr2 hc hnew g2
      obtain ⟨σ1, hσ1⟩ : ∃ σ1, σ1 = σ.set (.blk s.H.length) (w.alloc (.deferred (some []))).heap.size := ⟨_, rfl⟩
      rw [← hσ1] at x2 hr2
      obtain ⟨W, hW⟩ : ∃ W, W = (w.alloc (.deferred (some []))).alloc (.loop { state := .ready, pending := none, fn := fn', tmps := a.tmps, params := ps, assign := asg, body, defers := w.heap.size }) := ⟨_, rfl⟩
      rw [← hW] at x2 hr2
      have x12 : Ext σ (hpS s) w σ1 (hpA s.tmps H1 (· < H1.length)) W := Ext.trans x1 x2
      have hl1 : H1[s.H.length]? = some (.loop .ready none (fn, E.nf) (s.tmps.map unBox) ps asg body) := by rw [hH1]; simp
      have hbox : ∀ t, σ1.ρ (.box t) = σ.ρ (.box t) := fun t => by rw [hσ1]; exact Sim.set_other _ _ (by simp)
      have hrf1 : RF σ1 (hpA s.tmps H1 (· < H1.length)) W s.tmps a := (slot_sound (d := none) (v := undefAV) (r := undef) hr.rf rfl x12 hr2 (.lit _) hbox).1
      have hρ : σ1.ρ (.blk s.H.length) = some (w.heap.size + 1) := by rw [hσ1, Sim.set_same]; simp
      have hsd : W.heap[w.heap.size]? = some (.deferred (some [])) := by
        rw [hW, heap_alloc_old _ _ _ (by simp)]
        exact heap_alloc_same _ _
      have hrs1 : RS lo σ1 ⟨s.tmps, H1, .mark :: s.D⟩ W { a with defers := [{ target := .collected w.heap.size, args := #[] }] ++ a.defers } := by
        refine ⟨⟨hrf1.heap, hrf1.box, hrf1.len, hrf1.val⟩, .cons (.mark hsd (fun l hl e => ?_) (fun hf => ?_) hr.d.base) (hr.d.ext x12 hr.rf.heap) (fun r hrr z hz e => by cases hrr; have := hr.d.marks z hz _ e; omega)⟩
        · rcases x2.new l _ hl e with q | ⟨q, q2⟩
          · simp at q; omega
          · obtain ⟨b', o, j1, j2, _, _⟩ := hr.rf.heap.obj l q
            rw [q2] at j1
            cases j1
            have := lt_of_heap j2
            omega
        · have hf : σ.F w.heap.size := by rw [hσ1] at hf; exact hf
          have := hr.rf.heap.F _ hf
          omega
      refine ⟨w.heap.size + 1, [{ target := .collected w.heap.size, args := #[] }], W, { target := .fn (.func f) vy, args := vx ++ #[.func (.yield (w.heap.size + 1)) #[] #[]] }, W, f, vx ++ #[.func (.yield (w.heap.size + 1)) #[] #[]] ++ vy, W, ?_, ?_, ?_, ?_, fun hh => by simp [fen] at hh, ?_⟩
      · rw [hW]; exact run_enterLoop_outer _ _ _ _ _
      · have := resolve_fn (P := P) (w := W) (ρ := a.eval) (args := #[.const (.func (.yield (w.heap.size + 1)) #[] #[])]) (tys := #[]) (ty := 0) hu
        simpa [Act.eval] using this
      · intro f' hf'
        have hf' : some f = some f' := hf'
        cases hf'
        have := (g2 ⟨fun _ => none, fun _ => False⟩ W #[])
        exact (show (fen P none).fn f from by
          have hh := g1 #[] W
          unfold callFunc at hh
          simp only [Sem.run_bind] at hh
          cases hfun : P.funcs[f]? with
          | some fnn => show (P.funcs[f]?).isSome = true; rw [hfun]; rfl
          | none =>
            exfalso
            simp [program, Sem.run, Result.andThen, hfun, stuck] at hh)
      · simp only [invoke]
        exact g1 _ _
      · -- the call
        have hargs : (vx ++ #[Value.func (.yield (w.heap.size + 1)) #[] #[]] ++ vy).size = (xs ++ [AV.yld s.H.length] ++ ys).length := by
          simp only [Array.size_append, List.length_append, sx, sy]
          rfl
        have hvb : ∀ {c u}, V σ (hpS s) w c u → V σ1 (hp0 H1) W c u := fun hv =>
          V.blks (σ := σ1) (σ' := σ1) (h := hpA s.tmps H1 (· < H1.length)) (h' := hp0 H1) (fun _ => rfl) (fun _ h => h) (fun _ => rfl) (fun _ h => h) (hv.ext x12 hr.rf.heap)
        have hcall := g2 σ1 W (vx ++ #[.func (.yield (w.heap.size + 1)) #[] #[]] ++ vy) hrf1.heap.noBoxes hargs fun i c u hi hu => by
          rw [List.getElem?_append] at hi
          rw [Array.getElem?_append] at hu
          have hl : (vx ++ #[Value.func (.yield (w.heap.size + 1)) #[] #[]]).size = (xs ++ [AV.yld s.H.length]).length := by simp [sx]
          rw [hl] at hu
          split at hi
          · rename_i hlt
            rw [if_pos hlt] at hu
            rw [List.getElem?_append] at hi
            rw [Array.getElem?_append] at hu
            rw [sx] at hu
            split at hi
            · rename_i hlt2
              rw [if_pos hlt2] at hu
              exact hvb (v1 i c u hi hu)
            · rename_i hlt2
              rw [if_neg hlt2] at hu
              have hi0 : i - xs.length = 0 := by
                have := (List.getElem?_eq_some_iff.1 hi).1
                simp at this
                omega
              rw [hi0] at hi hu
              simp only [List.getElem?_cons_zero, Option.some.injEq] at hi
              have hu : some (Value.func (.yield (w.heap.size + 1)) #[] #[]) = some u := by simpa using hu
              cases hu
              subst hi
              have hm : (hp0 H1).m (.blk s.H.length) = .loop .ready none (fn, E.nf) (s.tmps.map unBox) ps asg body := getD_of_some hl1
              exact .yld (by rw [hm]; rfl) (by simp [hp0, hpA, hH1]) hρ
          · rename_i hlt
            rw [if_neg hlt] at hu
            exact hvb (v2 _ c u hi hu)
        refine callsIn_fen (hcall.mono ?_)
        intro e w3 hl
        cases cr with
        | pan v H2 =>
          simp only [] at he
          cases he
          obtain ⟨u, rfl, σ2, x3, hr3, hv⟩ := hl
          obtain ⟨q1, q2, q3⟩ := rejoin (H2 := H2) (A2 := (· < H2.length)) hrf1 x3 hr3
          have x13 := x12.trans q2
          exact ⟨joinS σ1 σ2, ⟨u, rfl, q3 hv⟩, ⟨⟨q1.heap, q1.box, q1.len, q1.val⟩, hrs1.d.ext q2 hrs1.rf.heap⟩, x13⟩
        | ret v H2 =>
          obtain ⟨u, rfl, σ2, x3, hr3, hv⟩ := hl
          -- the loop's end
          have main : ∀ (st : LoopState) (pend : Option Code) (p3 : FuncId × Nat) (tm : List AV) (ps' : Array Tmp) (asg' body' : Code), st ≠ .busy → H2[s.H.length]? = some (.loop st pend p3 tm ps' asg' body') →
              ∃ w4, (Instr.endLoop (w.heap.size + 1)).run P w3 = .ok pend w4 ∧ ∃ σ4, RS lo σ4 ⟨s.tmps, H2.set s.H.length .dead, .mark :: s.D⟩ w4 { a with defers := [{ target := .collected w.heap.size, args := #[] }] ++ a.defers } ∧
                Ext σ (hpS s) w σ4 (hpS ⟨s.tmps, H2.set s.H.length .dead, .mark :: s.D⟩) w4 := by
            intro st pend p3 tm ps' asg' body' hst hl2
            have hb3 : σ2.ρ (.blk s.H.length) = some (w.heap.size + 1) := by
              rw [same_loop (tmps := []) (tmps' := []) x3 hrf1.heap.noBoxes hl1 hl2]; exact hρ
            obtain ⟨b3, rec3, t1, t2, t3, t4, t5, t6, t7, t8, t9⟩ := loop_at (tmps := []) hr3 hl2
            rw [hb3] at t1
            cases t1
            obtain ⟨x4, hr4⟩ := loop_set (tmps := []) hr3 hl2 hb3 t2 .exhausted pend
            have hw2 : ({ rec3 with state := .exhausted, pending := pend } : Loop) = { rec3 with state := .exhausted } := by rw [← t4]
            rw [hw2] at x4 hr4
            obtain ⟨x5, hr5⟩ := RH.drop hr4 (.blk s.H.length)
            have hid := (List.getElem?_eq_some_iff.1 hl2).1
            have hset := hpA_setblk [] (H2.set s.H.length (.loop .exhausted pend p3 tm ps' asg' body')) s.H.length .dead (by simpa using hid)
            rw [List.set_set] at hset
            rw [hset] at x5 hr5
            have x35 := (Ext.trans x3 x4).trans x5
            obtain ⟨q1, q2, _⟩ := rejoin hrf1 x35 hr5
            refine ⟨_, by rw [← t4]; exact run_endLoop (P := P) t2 (by rw [t3]; exact hst), joinS σ1 σ2, ⟨⟨q1.heap, q1.box, q1.len, q1.val⟩, hrs1.d.ext q2 hrs1.rf.heap⟩, x12.trans q2⟩
          have fin : ∀ (st : LoopState) (pend : Option Code) (p3 : FuncId × Nat) (tm : List AV) (ps' : Array Tmp) (asg' body' : Code), st ≠ .busy → H2[s.H.length]? = some (.loop st pend p3 tm ps' asg' body') →
              (match pend with
                | none => some (Ex.normal, (⟨s.tmps, H2.set s.H.length .dead, .mark :: s.D⟩ : FS))
                | some .ret => some (.ret, ⟨s.tmps, H2.set s.H.length .dead, .mark :: s.D⟩)
                | some (.exit i) => some (.exit i, ⟨s.tmps, H2.set s.H.length .dead, .mark :: s.D⟩)
                | _ => none) = some (ex, s') →
              rangePost (fen P none) 0 P (w.heap.size + 1) (CPost lo σ s w ex s') { a with defers := [{ target := .collected w.heap.size, args := #[] }] ++ a.defers } (.returned u) w3 := by
            intro st pend p3 tm ps' asg' body' hst hl2 he
            obtain ⟨w4, e1, σ4, e2, e3⟩ := main st pend p3 tm ps' asg' body' hst hl2
            refine ⟨pend, w4, e1, ?_⟩
            split at he
            · cases he
              exact ⟨σ4, trivial, e2, e3⟩
            · cases he
              exact jump_wp (.inl ⟨rfl, rfl⟩) e2 e3
            · cases he
              exact jump_wp (.inr ⟨_, rfl, rfl⟩) e2 e3
            · cases he
          simp only [] at he
          split at he
          · rename_i hl2
            exact fin _ _ _ _ _ _ _ (by simp) hl2 he
          · rename_i hl2
            exact fin _ _ _ _ _ _ _ (by simp) hl2 he
          · cases he

theorem execC_wp (hE : EnvOk P E) (hO : OracleOk P O) (hm : P.follows .mixedOrders = true) {rd : Bool} (hrd : ro.isSome = rd) : ∀ (c : Code) {s s' : FS} {ex : Ex} {σ : Sim} {w : World} {a : Act}, execC O E fn rd c s = some (ex, s') → RS lo σ s w a →
    c.wpIn (fen P ro) 0 P (CPost lo σ s w ex s') a w := by
  intro c
  induction c with
  | skip => intro s s' ex σ w a he hr; cases he; exact wpIn_skip ⟨σ, trivial, hr, Ext.refl _ _ _⟩
  | label l => intro s s' ex σ w a he hr; cases he; exact wpIn_label ⟨σ, trivial, hr, Ext.refl _ _ _⟩
  | region id ops draw =>
    intro s s' ex σ w a he hr
    simp only [execC] at he
    cases draw with
    | true =>
      exact drawX_wp hE hO hm hrd he hr
    | false =>
      simp only [Bool.false_eq_true, if_false] at he
      exact wpIn_region (opsRun_wp hE hO hrd _ he hr)
  | seq x y ihx ihy =>
    intro s s' ex σ w a he hr
    simp only [execC] at he
    split at he
    · rename_i s1 h1
      refine wpIn_seq (wpIn_mono (ihx h1 hr) fun e a1 w1 hc => ?_)
      obtain ⟨rfl, σ1, hr1, x1⟩ := hc.normal
      exact CPost.andThen x1 (ihy he hr1)
    · rename_i hne
      refine wpIn_seq (wpIn_mono (ihx he hr) fun e a1 w1 hc => ?_)
      cases e with
      | normal =>
        obtain ⟨σ1, h1, _, _⟩ := hc
        cases ex <;> simp only [ExR] at h1
        exact absurd he (hne _)
      | _ => exact hc
  | cond c x y ihx ihy =>
    intro s s' ex σ w a he hr
    simp only [execC] at he
    split at he
    · rename_i hc
      have h0 := evT_sound hr.rf hc
      have hcv : a.eval c = .bool true := by generalize a.eval c = u at h0; cases h0; rfl
      exact wpIn_cond_true hcv (ihx he hr)
    · rename_i hc
      have h0 := evT_sound hr.rf hc
      have hcv : a.eval c = .bool false := by generalize a.eval c = u at h0; cases h0; rfl
      exact wpIn_cond_false hcv (ihy he hr)
    · cases he
  | block id b ih =>
    intro s s' ex σ w a he hr
    simp only [execC] at he
    split at he
    · rename_i i s1 h1
      cases he
      refine wpIn_block (wpIn_mono (ih h1 hr) fun e a1 w1 hc => ?_)
      obtain ⟨σ1, h2, h3, h4⟩ := hc
      cases e <;> simp only [ExR] at h2
      subst h2
      simp only [Exit.inBlock]
      split
      · exact ⟨σ1, trivial, h3, h4⟩
      · exact ⟨σ1, rfl, h3, h4⟩
    · rename_i hne
      refine wpIn_block (wpIn_mono (ih he hr) fun e a1 w1 hc => ?_)
      cases e with
      | exit i =>
        obtain ⟨σ1, h1, _, _⟩ := hc
        cases ex <;> simp only [ExR] at h1
        exact absurd he (hne _ _)
      | _ => exact hc
  | loop b ih =>
    intro s s' ex σ w a he hr
    simp only [execC] at he
    intro bb k cs hro hb hroom
    obtain ⟨e, a1, w1, hq, harr⟩ := hO.loop _ _ _ _ _ _ he ro hrd lo σ w a hr bb k cs hro hb hroom
    exact ⟨e, a1, w1, hq, .of_steps (.one (fenced_calm (n := 0) hb hroom rfl) stepR_loop) harr⟩
  | exit id => intro s s' ex σ w a he hr; cases he; exact wpIn_exit ⟨σ, rfl, hr, Ext.refl _ _ _⟩
  | ret => intro s s' ex σ w a he hr; cases he; exact wpIn_ret ⟨σ, trivial, hr, Ext.refl _ _ _⟩
  | rangeFunc g ps asg body iha ihb =>
    intro s s' ex σ w a he hr
    simp only [execC] at he
    split at he
    · cases he
    · rename_i hnr
      have hro : ro = none := by
        cases ro with
        | none => rfl
        | some l => subst hrd; exact absurd rfl hnr
      subst hro
      exact rangeRun_wp hE hO he hr
  | scope b ih =>
    intro s s' ex σ w a he hr
    simp only [execC] at he
    intro bb k cs hro hb hroom
    have s1 : step P (lone (bb.atR a (.code (.scope b) :: k)) cs w) = .next (lone (bb.atR a (.code b :: .inScope b :: k)) cs w) := step_lone_go (by simp [stepG, stepG.exec, Frame.atR])
    have hx : ∀ id, exitTo id (.inScope b :: k) = exitTo id k := fun id => rfl
    have h0 : (lone (bb.atR a (.code (.scope b) :: k)) cs w).fenced P (fen P ro) := fenced_calm (n := 0) hb hroom rfl
    obtain ⟨e, a1, w1, hq, harr⟩ := ih he hr bb (.inScope b :: k) cs hro hb hroom
    cases e with
    | normal =>
      have s2 : step P (lone (bb.atR a1 (.inScope b :: k)) cs w1) = .next (lone (bb.atR a1 k) cs w1) := step_lone_go (by simp [stepG, stepG.exec, Frame.atR])
      exact ⟨.normal, a1, w1, hq, .head h0 s1 (StepsIn.trans harr (.one (fenced_calm (n := 0) hb hroom rfl) s2))⟩
    | exit id =>
      exact ⟨.exit id, a1, w1, hq, fun k' hk => .head h0 s1 (harr.1 k' (by rw [hx]; exact hk)), fun hr' hk => let ⟨k₁, h1, h2⟩ := harr.2 hr' (by rw [hx]; exact hk); ⟨k₁, h1, .head h0 s1 h2⟩⟩
    | goto l =>
      obtain ⟨σ1, h1, _, _⟩ := hq
      cases ex <;> simp only [ExR] at h1
    | ret => exact ⟨.ret, a1, w1, hq, .of_steps (.one h0 s1) harr⟩
    | panic ch => exact ⟨.panic ch, a1, w1, hq, .of_steps (.one h0 s1) harr⟩
    | outgrown => exact ⟨.outgrown, a1, w1, hq, .of_steps (.one h0 s1) harr⟩
  | goto l => intro s s' ex σ w a he hr; cases he
  | refuse y => intro s s' ex σ w a he hr; cases he

theorem execL_good (hE : EnvOk P E) (hO : OracleOk P O) (hm : P.follows .mixedOrders = true) {rd : Bool} {b : Code} {ex : Ex} (he : execL O E fn rd b s = some (ex, s')) : GoodL P rd b s ex s' := by
  intro ro hrd lo σ w a hr bb k cs hro hb hroom
  unfold execL at he
  split at he
  · rename_i s1 h1
    obtain ⟨e, a1, w1, hq, harr⟩ := execC_wp hE hO hm hrd b h1 hr bb (.inLoop b :: k) cs hro hb hroom
    obtain ⟨rfl, σ1, hr1, x1⟩ := hq.normal
    obtain ⟨e2, a2, w2, hq2, harr2⟩ := hO.loop _ _ _ _ _ _ he ro hrd lo σ1 w1 a1 hr1 bb k cs hro hb hroom
    exact ⟨e2, a2, w2, hq2.from x1, .of_steps (StepsIn.trans harr (.one (fenced_calm (n := 0) hb hroom rfl) stepR_inLoop)) harr2⟩
  · rename_i hne
    obtain ⟨e, a1, w1, hq, harr⟩ := execC_wp hE hO hm hrd b he hr bb (.inLoop b :: k) cs hro hb hroom
    refine ⟨e, a1, w1, hq, .pass (x := .inLoop b) rfl (fun _ _ => .inl ?_) harr⟩
    rintro rfl
    obtain ⟨σ1, h1, _, _⟩ := hq
    cases ex <;> simp only [ExR] at h1
    exact absurd he (hne _)
end
end Go.Proofs.Ytmmabdpmeijgmaa.AM
