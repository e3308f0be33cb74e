/- Regions in the order of the text. -/
import Derived.Test.YtmmabdpmeijgmaaA18
import Derived.OrdersIn
namespace Go.Proofs.Ytmmabdpmeijgmaa.AM
open Go

def wantedA (ops : Array Oper) (tmps : List AV) (o : Oper) : Option Bool :=
  match o.guard with
  | none => some true
  | some (j, want) => match (ops[j]?).bind (·.dst) with
    | none => some false
    | some d => match evT tmps (.tmp d) with
      | some (.lit (.bool b)) => some (b == want)
      | some (.lit (.tuple _)) => some false
      | _ => none

/-- A call that is not made leads, if at all, to a function of the program. -/
def aboutOk (E : Env) (tmps : List AV) (o : Oper) : Bool :=
  match o.op with
  | .call c => match c.callee with
    | .value g => match evT tmps g with
      | some (.fn (.func f) _ _) => decide (f < E.nf)
      | some (.lit (.tuple _)) => true
      | _ => false
    | .builtin _ => true
    | _ => false
  | _ => true

def opsRun (O : Oracle) (E : Env) (fn : FuncId) (rd : Bool) (ops : Array Oper) : List Nat → FS → Option (Ex × FS)
  | [], s => some (.normal, s)
  | i :: rest, s => match ops[i]? with
    | none => opsRun O E fn rd ops rest s
    | some o => match wantedA ops s.tmps o with
      | some true => match opRun O E fn rd o s with
        | some (.next s') => opsRun O E fn rd ops rest s'
        | some (.pan v s') => some (.panic v, s')
        | none => none
      | some false => if aboutOk E s.tmps o then opsRun O E fn rd ops rest ⟨setD s.tmps o.dst undefAV, s.H, s.D⟩ else none
      | none => none

section
variable {σ σ' σ2 : Sim} {h h' h2 : Hp} {w w' w2 : World} {P : Program} {E : Env} {O : Oracle} {tmps tmps' : List AV} {H H' H2 : List AObj} {A A2 : Nat → Prop} {a : Act} {s s' : FS} {ro : Option Nat} {lo : Nat}

theorem wantedA_sound {ops : Array Oper} {o : Oper} {b : Bool} (hr : RF σ h w tmps a) (hw : wantedA ops tmps o = some b) : Region.wanted o (yielded ops a.tmps) = b := by
  unfold wantedA at hw
  unfold Region.wanted
  split at hw
  · rename_i hg
    cases hw
    rw [hg]
  · rename_i j want hg
    rw [hg]
    simp only [yielded]
    split at hw
    · rename_i hd
      cases hw
      rw [hd]
      rfl
    · rename_i d hd
      rw [hd]
      simp only [Option.bind_some]
      split at hw
      · rename_i b' he
        cases hw
        have ht : tmps[d]? = some (.lit (.bool b')) := by
          simp only [evT] at he
          split at he <;> first | (cases he; done) | (rename_i x _ _ _ hx; rw [hx]; exact he)
        obtain ⟨u, h1, _, h3⟩ := hr.at_ ht
        have : u = .bool b' := by
          have h3 : V σ h w (.lit (.bool b')) u := h3
          cases h3; rfl
        rw [h1, this]
        cases b' <;> cases want <;> rfl
      · rename_i b' he
        cases hw
        have ht : tmps[d]? = some (.lit (.tuple b')) := by
          simp only [evT] at he
          split at he <;> first | (cases he; done) | (rename_i x _ _ _ hx; rw [hx]; exact he)
        obtain ⟨u, h1, _, h3⟩ := hr.at_ ht
        have : u = .tuple b' := by
          have h3 : V σ h w (.lit (.tuple b')) u := h3
          cases h3; rfl
        rw [h1, this]
        rfl
      · cases hw

theorem aboutOk_sound (hE : EnvOk P E) {o : Oper} (hr : RF σ h w tmps a) (hb : aboutOk E tmps o = true) : ∀ f, o.about P w a.eval = some f → (P.funcs[f]?).isSome = true := by
  intro f hf
  unfold aboutOk at hb
  split at hb
  · rename_i c ho
    obtain ⟨cal, args, tys⟩ := c
    simp only [] at hb
    split at hb
    · rename_i g
      split at hb
      · rename_i f' xs ys he
        have h0 := evT_sound hr he
        generalize hu : a.eval g = u at h0
        cases h0 with
        | fn _ _ _ _ =>
          unfold Oper.about at hf
          rw [ho] at hf
          simp only [resolve_fn (P := P) (w := w) hu] at hf
          have hf : some _ = some f := hf
          cases hf
          have : f < P.funcs.size := by rw [← hE.nf]; exact of_decide_eq_true hb
          simp [this]
      · rename_i t he
        have h0 := evT_sound hr he
        have hu : a.eval g = .tuple t := by
          generalize a.eval g = u at h0
          cases h0; rfl
        exfalso
        unfold Oper.about at hf
        rw [ho] at hf
        have : (resolve a.eval { callee := .value g, args := args, argTypes := tys } o.type).run P w = (stuck "call: function value expected" : Sem Deferred).run P w := by
          simp only [resolve, hu, Deferred.ofValue]
        simp only [this] at hf
        cases hf
      · cases hb
    · rw [about_builtin (b := _) ho] at hf
      cases hf
    · cases hb
  · rename_i hno
    rw [about_other (fun c hc => hno c hc)] at hf
    cases hf

theorem opRun_wp (hE : EnvOk P E) (hO : OracleOk P O) {fn : FuncId} {rd : Bool} {o : Oper} {r : OpR} {next : Act → World → Prop} {Q : Exit → Act → World → Prop} (hrd : ro.isSome = rd)
    (hr : RS lo σ s w a) (he : opRun O E fn rd o s = some r) (hgoal : OpGoal lo σ s w a next Q r) : o.wpIn (fen P ro) 0 P a w next Q := by
  unfold opRun at he
  split at he
  · -- a panic
    rename_i x ho
    split at he
    · rename_i t v hx
      cases he
      have h0 := evT_sound hr.rf hx
      refine ⟨fun f hf => ?_, ?_⟩
      · rw [about_other (by rw [ho]; simp)] at hf; cases hf
      · rw [Oper.semAt_eq _ _ _ (by rw [ho]; simp)]
        have hu : ∃ u, a.eval x = .iface t u := by
          generalize a.eval x = u at h0
          cases h0
          exact ⟨_, rfl⟩
        obtain ⟨u, hu⟩ := hu
        have : (execOp a.eval o).run P w = .halt (.panic (a.eval x)) w := by
          unfold execOp
          rw [ho]
          simp only [hu, Instr.panic, Sem.run_bind, run_goPanic, Result.andThen]
        rw [this, Oper.uponIn_panic]
        exact hgoal σ _ w hr h0 (Ext.refl _ _ _)
    · cases he
  · -- a deferred call
    rename_i c ho
    obtain ⟨cal, args, tys⟩ := c
    simp only [] at he
    split at he
    · rename_i g
      split at he
      · rename_i f xs ys hg
        split at he
        · cases he
        · rename_i hnr
          simp only [Option.bind_eq_bind, Option.bind_eq_some_iff] at he
          obtain ⟨as, has, he⟩ := he
          cases he
          have hro : ro = none := by
            cases ro with
            | none => rfl
            | some l => subst hrd; exact absurd rfl hnr
          subst hro
          have h0 := evT_sound hr.rf hg
          obtain ⟨h1, h2⟩ := evs_sound hr.rf has
          generalize hu : a.eval g = u at h0
          cases h0 with
          | @fn _ _ _ vx vy sx sy v1 v2 =>
            refine ⟨fun f hf => ?_, ?_⟩
            · rw [about_other (by rw [ho]; simp)] at hf; cases hf
            · have : (execOp a.eval o).run P w = .ok (.defer { target := .fn (.func f) vy, args := vx ++ args.map a.eval }) w := by
                unfold execOp
                rw [ho]
                simp only [Sem.run_bind, resolve_fn (P := P) (w := w) hu, Result.andThen_ok]
                rfl
              have hsem : o.semAt (fen P none).round a.eval = execOp a.eval o := rfl
              rw [hsem, this, Oper.uponIn_defer]
              obtain ⟨z1, z2⟩ := slot_sound (d := o.dst) (v := undefAV) (r := undef) hr.rf rfl (Ext.refl _ _ _) hr.rf.heap (.lit _) fun _ => rfl
              have z3 : RF σ (hpA (setD s.tmps o.dst undefAV) s.H (· < s.H.length)) w (setD s.tmps o.dst undefAV) ({ a with defers := { target := .fn (.func f) vy, args := vx ++ args.map a.eval } :: a.defers }.put o.dst undef) := by
                refine ⟨z1.heap, z1.box, ?_, fun t c u hc hu => z1.val t c u hc ?_⟩
                · have := z1.len
                  cases hd : o.dst <;> simp only [Act.put, hd] at this ⊢ <;> exact this
                · cases hd : o.dst <;> simp only [Act.put, hd] at hu ⊢ <;> exact hu
              refine hgoal σ _ w ⟨z3, ?_⟩ z2
              rw [put_defers]
              refine .cons (.call (by simp [sx, sy] at h1 ⊢; omega) fun i c u hi hu => V.ext z2 hr.rf.heap ?_) (hr.d.ext z2 hr.rf.heap) (fun r hr => by cases hr)
              rw [List.getElem?_append] at hi
              rw [Array.getElem?_append] at hu
              have hl : (vx ++ args.map a.eval).size = (xs ++ as).length := by simp [sx] at h1 ⊢; omega
              rw [hl] at hu
              split at hi
              · rename_i hlt
                rw [if_pos hlt] at hu
                rw [List.getElem?_append] at hi
                rw [Array.getElem?_append] at hu
                rw [sx] at hu
                split at hi
                · rename_i hlt2
                  rw [if_pos hlt2] at hu
                  exact v1 i c u hi hu
                · rename_i hlt2
                  rw [if_neg hlt2] at hu
                  exact h2 _ c u hi hu
              · rename_i hlt
                rw [if_neg hlt] at hu
                exact v2 _ c u hi hu
      · cases he
    · cases he
  · -- a call
    rename_i c ho
    obtain ⟨cal, args, tys⟩ := c
    simp only [] at he
    split at he
    · rename_i g
      split at he
      · rename_i f xs ys hg
        simp only [Option.bind_eq_bind, Option.bind_eq_some_iff] at he
        obtain ⟨as, has, he⟩ := he
        exact callRun_wp hO.call hr ho hg has he hgoal
      · rename_i id hg
        simp only [Option.bind_eq_bind, Option.bind_eq_some_iff] at he
        obtain ⟨as, has, he⟩ := he
        exact yieldRun_wp hE hO hr ho hg has he hgoal
      · cases he
    · exact opGen_wp hE (by rw [ho]; simp) (about_builtin ho) hr he hgoal
    · cases he
  · rename_i h1 h2 h3
    exact opGen_wp hE (fun c hc => h2 c hc) (about_other fun c hc => h3 c hc) hr he hgoal

theorem CPost.from {s0 s1 : FS} {ex : Ex} {e : Exit} {a' : Act} (x : Ext σ (hpS s0) w σ' (hpS s) w') (hc : CPost lo σ' s w' ex s1 e a' w2) : CPost lo σ s0 w ex s1 e a' w2 :=
  let ⟨σ2, h1, h2, h3⟩ := hc; ⟨σ2, h1, h2, x.trans h3⟩

theorem skip_slot (hr : RS lo σ s w a) (d : Option Nat) : RS lo σ ⟨setD s.tmps d undefAV, s.H, s.D⟩ w (a.put d undef) ∧ Ext σ (hpS s) w σ (hpS ⟨setD s.tmps d undefAV, s.H, s.D⟩) w := by
  obtain ⟨z1, z2⟩ := slot_sound (d := d) (v := undefAV) (r := undef) hr.rf rfl (Ext.refl _ _ _) hr.rf.heap (.lit _) fun _ => rfl
  exact ⟨⟨z1, by rw [put_defers]; exact hr.d.ext z2 hr.rf.heap⟩, z2⟩

theorem ops_mono {F : Fence} {n : Nat} {ops : Array Oper} {Q Q' : Exit → Act → World → Prop} (hq : ∀ e a w, Q e a w → Q' e a w) : ∀ (l : List Nat) (a : Act) (w : World), wpOpsIn F n P ops Q l a w → wpOpsIn F n P ops Q' l a w := by
  intro l
  induction l with
  | nil => exact fun a w' hh => hq _ _ _ hh
  | cons j l ih =>
    intro a w' hh
    rw [wpOpsIn_cons] at hh ⊢
    unfold wpOpIn at hh ⊢
    split
    · rename_i hj
      rw [hj] at hh
      exact ih a w' hh
    · rename_i oj hj
      simp only [hj] at hh
      split
      · rename_i hwj
        rw [if_pos hwj] at hh
        refine ⟨hh.1, ?_⟩
        have h2 := hh.2
        generalize (oj.semAt F.round a.eval).run P w' = rr at h2
        cases rr with
        | ok x w'' =>
          cases x <;> simp only [Oper.uponIn] at h2 ⊢ <;> first
            | exact ih _ _ h2
            | exact h2
            | exact ⟨h2.1, CallsIn.mono h2.2 fun e w3 he => by
                cases e with
                | returned v => exact ih _ _ he
                | panicked c => exact hq _ _ _ he
                | outgrown => obtain ⟨a0, w0, h0⟩ := he; exact ⟨a0, w0, hq _ _ _ h0⟩⟩
            | exact ⟨h2.1, RowsIn.mono h2.2 fun v w3 he => ih _ _ he⟩
            | exact ⟨h2.1, RoundIn.mono h2.2 fun e w3 he => by
                cases e with
                | returned v => exact ih _ _ he
                | panicked c => exact hq _ _ _ he
                | outgrown => obtain ⟨a0, w0, h0⟩ := he; exact ⟨a0, w0, hq _ _ _ h0⟩⟩
        | halt x w'' =>
          cases x <;> simp only [Oper.uponIn] at h2 ⊢ <;> first | exact hq _ _ _ h2 | exact h2
      · rename_i hwj
        rw [if_neg hwj] at hh
        exact ⟨hh.1, ih _ _ hh.2⟩

theorem opsRun_wp (hE : EnvOk P E) (hO : OracleOk P O) {fn : FuncId} {rd : Bool} (hrd : ro.isSome = rd) {ops : Array Oper} {ex : Ex} : ∀ (l : List Nat) {s s' : FS} {σ : Sim} {w : World} {a : Act}, opsRun O E fn rd ops l s = some (ex, s') → RS lo σ s w a →
    wpOpsIn (fen P ro) 0 P ops (CPost lo σ s w ex s') l a w
  | [], s, s', σ, w, a, he, hr => by
    cases he
    exact ⟨σ, trivial, hr, Ext.refl _ _ _⟩
  | i :: rest, s, s', σ, w, a, he, hr => by
    rw [wpOpsIn_cons]
    unfold wpOpIn
    unfold opsRun at he
    cases ho : ops[i]? with
    | none =>
      rw [ho] at he
      exact opsRun_wp hE hO hrd rest he hr
    | some o =>
      rw [ho] at he
      simp only [] at he ⊢
      split at he
      · rename_i hw
        rw [if_pos (wantedA_sound hr.rf hw)]
        split at he
        · rename_i s1 hop
          refine opRun_wp hE hO hrd hr hop fun σ1 a1 w1 hr1 x1 => ?_
          have := opsRun_wp hE hO hrd rest he hr1
          exact ops_mono (fun e a w' hc => hc.from x1) _ _ _ this
        · rename_i v s1 hop
          cases he
          refine opRun_wp hE hO hrd hr hop fun σ1 u w1 hr1 hv x1 => ?_
          exact ⟨σ1, ⟨u, rfl, hv⟩, hr1, x1⟩
        · cases he
      · rename_i hw
        split at he
        · rename_i hab
          rw [if_neg (by rw [wantedA_sound hr.rf hw]; simp)]
          obtain ⟨hr1, x1⟩ := skip_slot hr o.dst
          refine ⟨aboutOk_sound hE hr.rf hab, ?_⟩
          exact ops_mono (fun e a w' hc => hc.from x1) _ _ _ (opsRun_wp hE hO hrd rest he hr1)
        · cases he
      · cases he
end
end Go.Proofs.Ytmmabdpmeijgmaa.AM
