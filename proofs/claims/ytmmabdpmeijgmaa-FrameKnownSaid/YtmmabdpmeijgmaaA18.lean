/- Yields: a round of a loop, walked where it is asked for. -/
import Derived.Test.YtmmabdpmeijgmaaA17
namespace Go.Proofs.Ytmmabdpmeijgmaa.AM
open Go

/-- What is asked at a round's end; a panic may leave it. -/
def roundEnd (P : Program) (l : Nat) (R : Ending → World → Prop) (e : Exit) (a : Act) (w : World) : Prop :=
  match e with
  | .normal => ∃ v w', (Instr.endRound l none).run P w = .ok v w' ∧ R (.returned v) w'
  | .ret => ∃ v w', (Instr.endRound l (some .ret)).run P w = .ok v w' ∧ R (.returned v) w'
  | .exit id => ∃ v w', (Instr.endRound l (some (.exit id))).run P w = .ok v w' ∧ R (.returned v) w'
  | .panic ch => a.defers = [] ∧ R (.panicked ch) w
  | _ => False

section
variable {σ σ' σ2 : Sim} {h h' h2 : Hp} {w w' w2 : World} {P : Program} {E : Env} {O : Oracle} {tmps tmps' : List AV} {H H' H2 : List AObj} {A A2 : Nat → Prop} {a : Act} {s s' : FS} {ro : Option Nat} {lo : Nat}

theorem fen_room (ro : Option Nat) (n : Nat) : (fen P ro).room n := fun _ h => by simp [fen] at h

theorem round_fen {n l : Nat} {f : FuncId} {tmps : Array Value} {asg body : Code} {R : Ending → World → Prop} (hF : (P.funcs[f]?).isSome = true)
    (hw : asg.wpIn (fen P (some l)) 0 P (fun e a₁ w₁ => e = .normal ∧ ∃ w₂, (Instr.beginRound l).run P w₁ = .ok () w₂ ∧ body.wpIn (fen P (some l)) 0 P (roundEnd P l R) a₁ w₂) { tmps := tmps, defers := [] } w) :
    RoundIn (fen P ro) n P l f tmps asg body w R := by
  refine ⟨hF, fun c cs _ => ?_⟩
  obtain ⟨b, hbd⟩ : ∃ b : Frame, b = { (default : Frame) with fn := f, kind := .normal, roundOf := some l } := ⟨_, rfl⟩
  have hbf : b.fn = f := by rw [hbd]
  have hbr : b.roundOf = some l := by rw [hbd]
  have hbk : b.kind = .normal := by rw [hbd]
  have hbF : (fen P (some l)).fn b.fn := by rw [hbf]; exact hF
  have room := fun n => fen_room (P := P) (some l) n
  have calm : ∀ (a : Act) (k : List Item) (w : World), (b.atR a k).about P w = none → (lone (b.atR a k) (c :: cs) w).fenced P (fen P (some l)) := fun a k w hab =>
    fenced_calm (n := 0) (fr := b.atR a k) hbF (room _) hab
  have hb0 : Frame.round l f tmps asg body .normal = b.atR { tmps := tmps, defers := [] } [.code asg, .beginRound, .code body] := by
    simp [Frame.round, Frame.atR, hbd]
  obtain ⟨e, a₁, w₁, ⟨rfl, w₂, hbr2, hbody⟩, harr⟩ := hw b [.beginRound, .code body] (c :: cs) hbr hbF (room _)
  obtain ⟨e₂, a₂, w₃, hq, harr₂⟩ := hbody b [] (c :: cs) hbr hbF (room _)
  have s0 : StepsIn (Machine.fenced P (fen P (some l))) P (lone (Frame.round l f tmps asg body .normal) (c :: cs) w) (lone (b.atR a₁ [.code body]) (c :: cs) w₂) := by
    rw [hb0]
    exact StepsIn.trans harr (.one (calm a₁ _ w₁ rfl) (stepR_beginRound hbr hbr2))
  cases e₂ with
  | normal =>
    obtain ⟨v, w₄, hend, hR⟩ := hq
    exact ⟨.returned v, w₄, hR, s0.trans (StepsIn.trans harr₂ (.one (calm a₂ _ w₃ rfl) (stepR_round_end hbr hbk hend)))⟩
  | ret =>
    obtain ⟨v, w₄, hend, hR⟩ := hq
    obtain ⟨k₁, hs⟩ := harr₂.2 (by rw [hbr]; rfl)
    exact ⟨.returned v, w₄, hR, s0.trans (hs.trans (.one (calm a₂ _ w₃ rfl) (stepR_round_ret hbr hbk hend)))⟩
  | exit id =>
    obtain ⟨v, w₄, hend, hR⟩ := hq
    obtain ⟨k₁, hk, hs⟩ := harr₂.2 (by rw [hbr]; rfl) rfl
    exact ⟨.returned v, w₄, hR, s0.trans (hs.trans (.one (calm a₂ _ w₃ rfl) (stepR_round_exit hbr hbk hk hend)))⟩
  | panic ch =>
    obtain ⟨hd, hR⟩ := hq
    obtain ⟨todo, hs⟩ := harr₂
    obtain ⟨fn, hfn⟩ := Option.isSome_iff_exists.1 hF
    have hl : ({ b.atR a₂ todo with mode := .panicking ch } : Frame).leaving P w₃ (.panicked ch) := ⟨rfl, hd, fn, by simp only [Frame.atR, hbf]; exact hfn⟩
    refine ⟨.panicked ch, w₃, hR, s0.trans (hs.trans (.one ?_ (step_leave_panicked hl)))⟩
    exact fenced_leaving (F := fen P (some l)) (n := 0) (fr := { b.atR a₂ todo with mode := .panicking ch }) hbF (room _) hl
  | goto _ => exact hq.elim
  | outgrown => exact hq.elim

/-- Values and what tells them, slot by slot. -/
def Rel (σ : Sim) (h : Hp) (w : World) (cs : List AV) (us : Array Value) : Prop :=
  us.size = cs.length ∧ ∀ (i : Nat) c (u : Value), cs[i]? = some c → us[i]? = some u → V σ h w c u

theorem Rel.set {cs : List AV} {us : Array Value} (hr : Rel σ h w cs us) (d : Nat) {c : AV} {u : Value} (hv : V σ h w c u) : Rel σ h w (cs.set d c) (us.setIfInBounds d u) := by
  refine ⟨by simp [hr.1], fun i c' u' hi hu => ?_⟩
  rw [List.getElem?_set] at hi
  rw [Array.getElem?_setIfInBounds] at hu
  by_cases hd : d = i
  · subst hd
    rw [if_pos rfl] at hi hu
    split at hi
    · rename_i hlt
      rw [if_pos (by rw [hr.1]; exact hlt)] at hu
      cases hi
      cases hu
      exact hv
    · cases hi
  · rw [if_neg hd] at hi hu
    exact hr.2 i c' u' hi hu

theorem Rel.params : ∀ (ps : List Tmp) (as : List AV) (us : List Value) {cs : List AV} {vs : Array Value}, Rel σ h w cs vs → (∀ (i : Nat) c (u : Value), as[i]? = some c → us[i]? = some u → V σ h w c u) → us.length = as.length →
    Rel σ h w ((ps.zip as).foldl (fun t p => t.set p.1 p.2) cs) ((ps.zip us).foldl (fun t p => t.setIfInBounds p.1 p.2) vs)
  | [], _, _, _, _, hr, _, _ => by simpa using hr
  | p :: ps, [], us, _, _, hr, _, hl => by
    have : us = [] := List.eq_nil_of_length_eq_zero hl
    subst this
    simpa using hr
  | p :: ps, a :: as, [], _, _, hr, _, hl => by simp at hl
  | p :: ps, a :: as, u :: us, cs, vs, hr, hv, hl => by
    simp only [List.zip_cons_cons, List.foldl_cons]
    exact Rel.params ps as us (hr.set p (hv 0 a u rfl rfl)) (fun i c u hi hu => hv (i + 1) c u (by simpa using hi) (by simpa using hu)) (by simpa using hl)

theorem Rel.noBox {cs : List AV} {us : Array Value} (hr : Rel σ h w cs us) : noBox cs := by
  intro t c hc
  have hlt : t < us.size := by rw [hr.1]; exact (List.getElem?_eq_some_iff.1 hc).1
  have hv := hr.2 t c us[t] hc (Array.getElem?_eq_getElem hlt)
  exact ⟨(by rintro cs rfl; cases hv), (by rintro s o rfl; cases hv)⟩

theorem getD_of_some {H : List AObj} {id : Nat} {x : AObj} (h : H[id]? = some x) : H.getD id .dead = x := by simp [List.getD, h]

/-- The record of a loop. -/
theorem loop_at {tmps : List AV} {H : List AObj} {A : Nat → Prop} (hr : RH σ (hpA tmps H A) w) {id : Nat} {st : LoopState} {pend : Option Code} {fn : FuncId × Nat} {tm : List AV} {ps : Array Tmp} {asg body : Code}
    (hl : H[id]? = some (.loop st pend fn tm ps asg body)) : ∃ b r, σ.ρ (.blk id) = some b ∧ w.heap[b]? = some (.loop r) ∧ r.state = st ∧ r.pending = pend ∧ r.fn < fn.2 ∧ r.params = ps ∧ r.assign = asg ∧ r.body = body ∧ Rel σ (hpA tmps H A) w tm r.tmps := by
  have hm : (hpA tmps H A).m (.blk id) = .loop st pend fn tm ps asg body := getD_of_some hl
  obtain ⟨b, o, h1, h2, h3, _⟩ := hr.obj (.blk id) (by rw [hm]; simp)
  rw [hm] at h3
  cases o <;> simp only [ObjRel] at h3
  obtain ⟨k1, k2, k3, k4, k5, k6, k7, k8⟩ := h3
  exact ⟨b, _, h1, h2, k1, k2, k3, k4, k5, k6, k7, k8⟩

theorem hpA_setblk (tmps : List AV) (H : List AObj) (id : Nat) (x : AObj) (hid : id < H.length) : (hpA tmps H (· < H.length)).set (.blk id) x = hpA tmps (H.set id x) (· < (H.set id x).length) := by
  simp only [Hp.set, hpA, List.length_set]
  congr 1
  funext l
  cases l with
  | blk i => simp only [mOf, getD_set_blk H id x hid, Loc.blk.injEq]
  | box t => simp [mOf]

/-- A record of a loop is written. -/
theorem loop_set {tmps : List AV} {H : List AObj} (hr : RH σ (hpA tmps H (· < H.length)) w) {id : Nat} {st : LoopState} {pend : Option Code} {fn : FuncId × Nat} {tm : List AV} {ps : Array Tmp} {asg body : Code}
    (hl : H[id]? = some (.loop st pend fn tm ps asg body)) {b : Nat} {r : Loop} (hb : σ.ρ (.blk id) = some b) (hh : w.heap[b]? = some (.loop r)) (st' : LoopState) (pend' : Option Code) :
    Ext σ (hpA tmps H (· < H.length)) w σ (hpA tmps (H.set id (.loop st' pend' fn tm ps asg body)) (· < (H.set id (.loop st' pend' fn tm ps asg body)).length)) (w.putObj b (.loop { r with state := st', pending := pend' })) ∧
    RH σ (hpA tmps (H.set id (.loop st' pend' fn tm ps asg body)) (· < (H.set id (.loop st' pend' fn tm ps asg body)).length)) (w.putObj b (.loop { r with state := st', pending := pend' })) := by
  obtain ⟨b', r', k1, k2, k3, k4, k5, k6, k7, k8, k9⟩ := loop_at hr hl
  rw [hb] at k1
  cases k1
  rw [hh] at k2
  cases k2
  have hm : (hpA tmps H (· < H.length)).m (.blk id) = .loop st pend fn tm ps asg body := getD_of_some hl
  have := RH.setO (o' := .loop { r with state := st', pending := pend' }) (x := .loop st' pend' fn tm ps asg body) hr (l := .blk id) (by rw [hm]; simp) hb hh (by simp) rfl (by rw [hm]; rfl) ⟨rfl, rfl, k5, k6, k7, k8, k9.1, k9.2⟩
  rw [hpA_setblk tmps H id _ (List.getElem?_eq_some_iff.1 hl).1] at this
  exact this

theorem same_loop {tmps tmps' : List AV} {H H' : List AObj} {A A' : Nat → Prop} (x : Ext σ (hpA tmps H A) w σ' (hpA tmps' H' A') w') (hr : RH σ (hpA tmps H A) w) {id : Nat} {st st' : LoopState} {pend pend' : Option Code} {fn fn' : FuncId × Nat} {tm tm' : List AV} {ps ps' : Array Tmp} {asg body asg' body' : Code}
    (hl : H[id]? = some (.loop st pend fn tm ps asg body)) (hl' : H'[id]? = some (.loop st' pend' fn' tm' ps' asg' body')) : σ'.ρ (.blk id) = σ.ρ (.blk id) := by
  have hm : (hpA tmps H A).m (.blk id) = .loop st pend fn tm ps asg body := getD_of_some hl
  have hm' : (hpA tmps' H' A').m (.blk id) = .loop st' pend' fn' tm' ps' asg' body' := getD_of_some hl'
  exact x.same id 0 (hr.al id (by rw [hm]; simp)) (by rw [hm]; rfl) (by rw [hm']; rfl)

theorem CPost.normal {s1 : FS} {e : Exit} {a' : Act} {w' : World} (hc : CPost lo σ s w .normal s1 e a' w') : e = .normal ∧ ∃ σ', RS lo σ' s1 w' a' ∧ Ext σ (hpS s) w σ' (hpS s1) w' := by
  obtain ⟨σ', h1, h2, h3⟩ := hc
  cases e <;> simp only [ExR] at h1
  exact ⟨rfl, σ', h2, h3⟩

theorem yieldRun_wp (hE : EnvOk P E) (hO : OracleOk P O) {o : Oper} {g : Operand} {args : Array Operand} {tys : Array TypeId} {id : Nat} {as : List AV} {r : OpR} {next : Act → World → Prop} {Q : Exit → Act → World → Prop}
    (hr : RS lo σ s w a) (ho : o.op = .call { callee := .value g, args, argTypes := tys })
    (hg : evT s.tmps g = some (.yld id)) (has : evs s.tmps args = some as) (he : yieldRun O E o.dst id as s = some r) (hgoal : OpGoal lo σ s w a next Q r) : o.wpIn (fen P ro) 0 P a w next Q := by
  unfold yieldRun at he
  split at he
  case h_2 => cases he
  rename_i pend fn nf tm ps asg body hl
  split at he
  case isFalse => cases he
  rename_i hcond
  obtain ⟨hlen, rfl⟩ := hcond
  -- the machine asks for a round
  obtain ⟨b, rec, r1, r2, r3, r4, r5, rfl, rfl, rfl, r9⟩ := loop_at hr.rf.heap hl
  have hu : a.eval g = .func (.yield b) #[] #[] := by
    have h0 := evT_sound hr.rf hg
    generalize a.eval g = u at h0
    cases h0 with
    | yld hs ha hb => rw [r1] at hb; cases hb; rfl
    | yldS _ _ hs =>
      have hm : (hpS s).m (.blk id) = .loop .ready pend (fn, E.nf) tm rec.params rec.assign rec.body := getD_of_some hl
      have := hs 0 (by rw [hm]; rfl)
      omega
  obtain ⟨e1, e2⟩ := evs_sound hr.rf has
  have hF : (P.funcs[rec.fn]?).isSome = true := by
    have : rec.fn < P.funcs.size := by rw [← hE.nf]; exact r5
    simp [this]
  have hab : o.about P w a.eval = none := by
    unfold Oper.about
    rw [ho]
    simp only [resolve_fn (P := P) (w := w) hu]
    rfl
  have hex : (execOp a.eval o).run P w = .ok (.round b rec.fn ((rec.params.zip (args.map a.eval)).foldl (fun tmps (t, a) => tmps.setIfInBounds t a) rec.tmps) rec.assign rec.body) w := by
    unfold execOp
    rw [ho]
    simp only [Sem.run_bind, resolve_fn (P := P) (w := w) hu, Result.andThen_ok, invoke]
    have := run_yield (P := P) (args := args.map a.eval) r2 (by rw [e1]; exact hlen)
    simpa using this
  refine ⟨fun f hf => (by rw [hab] at hf; cases hf), ?_⟩
  rw [Oper.semAt_eq _ _ _ (by rw [ho]; simp), hex, Oper.uponIn_round]
  refine ⟨fun hh => by simp [fen] at hh, ?_⟩
  -- the round's frame
  obtain ⟨tm1, htm1⟩ : ∃ tm1, tm1 = (rec.params.toList.zip as).foldl (fun t p => t.set p.1 p.2) tm := ⟨_, rfl⟩
  rw [← htm1] at he
  obtain ⟨us1, hus1⟩ : ∃ us1, us1 = (rec.params.zip (args.map a.eval)).foldl (fun tmps (t, a) => tmps.setIfInBounds t a) rec.tmps := ⟨_, rfl⟩
  rw [← hus1]
  have rel0 : Rel σ (hpA [] s.H (· < s.H.length)) w tm rec.tmps := ⟨r9.1, fun i c u hi hu => V.blks (σ := σ) (σ' := σ) (h := hpS s) (h' := hpA [] s.H (· < s.H.length)) (fun _ => rfl) (fun _ h => h) (fun _ => rfl) (fun _ h => h) (r9.2 i c u hi hu)⟩
  have rel1 : Rel σ (hpA [] s.H (· < s.H.length)) w tm1 us1 := by
    have := Rel.params rec.params.toList as (args.map a.eval).toList rel0 (fun i c u hi hu => V.blks (σ := σ) (σ' := σ) (h := hpS s) (h' := hpA [] s.H (· < s.H.length)) (fun _ => rfl) (fun _ h => h) (fun _ => rfl) (fun _ h => h) (e2 i c u hi (by rw [← Array.getElem?_toList]; exact hu))) (by simpa using e1)
    rw [htm1, hus1]
    rw [← Array.foldl_toList, Array.toList_zip]
    exact this
  have hrs0 : RS 0 σ ⟨tm1, s.H, []⟩ w { tmps := us1, defers := [] } := ⟨begins hr.rf.heap.noBoxes rel1.noBox rel1.1 rel1.2, .nil (lo := 0) (Nat.zero_le _)⟩
  have hp0 : hpS ⟨tm1, s.H, []⟩ = hpA [] s.H (· < s.H.length) := hpA_noBox rel1.noBox _ _
  cases hc1 : O.code fn true rec.assign ⟨tm1, s.H, []⟩ with
  | none => rw [hc1] at he; cases he
  | some q1 =>
    obtain ⟨ex1, s1⟩ := q1
    rw [hc1] at he
    cases ex1 with
    | exit _ => cases he
    | ret => cases he
    | panic _ => cases he
    | normal =>
      simp only [] at he
      split at he
      case h_2 => cases he
      rename_i pend1 fn1 tm2 ps1 asg1 body1 hl1 hD1
      refine round_fen hF (wpIn_mono (hO.code _ _ _ _ _ _ hc1 (some b) rfl 0 σ w _ hrs0) fun e a1 w1 hcp => ?_)
      obtain ⟨rfl, σ1, hrs1, x1⟩ := hcp.normal
      refine ⟨rfl, ?_⟩
      have hb1 : σ1.ρ (.blk id) = some b := by rw [same_loop x1 hrs0.rf.heap hl hl1]; exact r1
      obtain ⟨b1, rec1, t1, t2, t3, t4, t5, t6, t7, t8, t9⟩ := loop_at hrs1.rf.heap hl1
      rw [hb1] at t1
      cases t1
      obtain ⟨x2, hr2⟩ := loop_set hrs1.rf.heap hl1 hb1 t2 .busy pend1
      have hw2 : ({ rec1 with state := .busy, pending := pend1 } : Loop) = { rec1 with state := .busy } := by rw [← t4]
      rw [hw2] at x2 hr2
      refine ⟨_, run_beginRound t2 t3, ?_⟩
      obtain ⟨H2, hH2⟩ : ∃ H2, H2 = s1.H.set id (.loop .busy pend1 fn1 tm2 ps1 asg1 body1) := ⟨_, rfl⟩
      rw [← hH2] at x2 hr2 he
      have hrf2 := (slot_sound (d := none) (v := undefAV) (r := undef) hrs1.rf rfl x2 hr2 (.lit _) fun _ => rfl).1
      have hrs2 : RS 0 σ1 ⟨s1.tmps, H2, []⟩ (w1.putObj b (.loop { rec1 with state := .busy })) a1 := by
        refine ⟨hrf2, ?_⟩
        have := hrs1.d.ext x2 hrs1.rf.heap
        rw [hD1] at this
        exact this
      have hl2 : H2[id]? = some (.loop .busy pend1 fn1 tm2 ps1 asg1 body1) := by
        rw [hH2, List.getElem?_set_self (List.getElem?_eq_some_iff.1 hl1).1]
      cases hc2 : O.code fn true rec.body ⟨s1.tmps, H2, []⟩ with
      | none => rw [hc2] at he; cases he
      | some q2 =>
        obtain ⟨ex, s2⟩ := q2
        rw [hc2] at he
        refine wpIn_mono (hO.code _ _ _ _ _ _ hc2 (some b) rfl 0 σ1 _ _ hrs2) fun e a2 w3 hcp => ?_
        obtain ⟨σ3, hexr, hrs3, x3⟩ := hcp
        have x13 : Ext σ (hpA [] s.H (· < s.H.length)) w σ3 (hpS s2) w3 := by
          rw [← hp0]
          exact x1.trans (Ext.trans x2 x3)
        -- the ways without a panic
        have fin : ∀ j, jumpOf ex = some j → (match s2.H[id]?, jumpOf ex with
              | some (.loop _ _ fn2 tm2 ps2 asg2 body2), some j => some (OpR.next ⟨setD s.tmps o.dst (.lit (.bool j.isNone)), s2.H.set id (.loop (if j.isNone then .ready else .done) j fn2 tm2 ps2 asg2 body2), s.D⟩)
              | _, _ => none) = some r → ∃ v w', (Instr.endRound b j).run P w3 = .ok v w' ∧ next (a.put o.dst v) w' := by
          intro j hj he
          rw [hj] at he
          split at he
          case h_2 => cases he
          rename_i st3 pend3 fn3 tm3 ps3 asg3 body3 j' hl3 hjj
          cases hjj
          cases he
          have hb3 : σ3.ρ (.blk id) = some b := by rw [same_loop x3 hrs2.rf.heap hl2 hl3]; exact hb1
          obtain ⟨b3, rec3, q1, q2, q3, q4, q5, q6, q7, q8, q9⟩ := loop_at hrs3.rf.heap hl3
          rw [hb3] at q1
          cases q1
          obtain ⟨x4, hr4⟩ := loop_set hrs3.rf.heap hl3 hb3 q2 (if j.isNone then .ready else .done) j
          refine ⟨_, _, run_endRound j q2, ?_⟩
          have x14 := (x13.trans x4).noBoxes
          obtain ⟨p1, p2, _⟩ := rejoin hr.rf x14 hr4.noBoxes
          obtain ⟨z1, z2⟩ := slot_sound (d := o.dst) (v := .lit (.bool j.isNone)) (r := .bool j.isNone) p1 rfl (Ext.refl _ _ _) p1.heap (.lit _) fun _ => rfl
          have x5 := p2.trans z2
          exact hgoal _ _ _ ⟨z1, by rw [put_defers]; exact hr.d.ext x5 hr.rf.heap⟩ x5
        cases ex with
        | normal =>
          cases e <;> simp only [ExR] at hexr
          exact fin none rfl he
        | ret =>
          cases e <;> simp only [ExR] at hexr
          exact fin (some .ret) rfl he
        | exit i =>
          cases e <;> simp only [ExR] at hexr
          subst hexr
          exact fin (some (.exit i)) rfl he
        | panic v =>
          cases e <;> simp only [ExR] at hexr
          obtain ⟨u, rfl, hv⟩ := hexr
          simp only [] at he
          split at he
          · rename_i hD2
            cases he
            have hd : a2.defers = [] := by
              have := hrs3.d
              rw [List.isEmpty_iff.1 hD2] at this
              generalize a2.defers = l at this
              cases this
              rfl
            refine ⟨hd, ?_⟩
            obtain ⟨p1, p2, p3⟩ := rejoin hr.rf x13.noBoxes hrs3.rf.heap.noBoxes
            refine hgoal _ u w3 ⟨p1, hr.d.ext p2 hr.rf.heap⟩ (p3 (V.blks (σ := σ3) (σ' := σ3) (h := hpS s2) (h' := hpA [] s2.H (· < s2.H.length)) (fun _ => rfl) (fun _ h => h) (fun _ => rfl) (fun _ h => h) hv)) p2
          · cases he
end
end Go.Proofs.Ytmmabdpmeijgmaa.AM
