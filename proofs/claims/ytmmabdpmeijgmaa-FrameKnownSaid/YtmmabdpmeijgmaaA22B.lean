/- A deferred call: a function that may call recover. -/
import Derived.Test.YtmmabdpmeijgmaaA22
import Derived.RecoverIn
namespace Go.Proofs.Ytmmabdpmeijgmaa.AM
open Go

/-- The panic that is under way (none: there is none): its value, and whether it has been taken. -/
abbrev PSt := Option (AV × Bool)

def isRec (o : Oper) : Bool :=
  match o.op with
  | .call c => (match c.callee with
    | .builtin .recover => true
    | _ => false)
  | _ => false

/-- An operation that is neither a call nor a panic. -/
def isPlain (o : Oper) : Bool :=
  match o.op with
  | .call c => (match c.callee with
    | .builtin _ => true
    | _ => false)
  | .defer _ => false
  | .panic _ => false
  | _ => true

def recOps (E : Env) (fn : FuncId) (ops : Array Oper) : List Nat → FS → PSt → Option (FS × PSt)
  | [], s, p => some (s, p)
  | i :: rest, s, p => match ops[i]? with
    | none => recOps E fn ops rest s p
    | some o => match wantedA ops s.tmps o with
      | some true =>
        if isRec o then
          match p with
          | some (v, false) => recOps E fn ops rest ⟨setD s.tmps o.dst v, s.H, s.D⟩ (some (v, true))
          | p => recOps E fn ops rest ⟨setD s.tmps o.dst (.lit .nilIface), s.H, s.D⟩ p
        else if isPlain o then
          match opGen E fn o s with
          | some (.next s') => recOps E fn ops rest s' p
          | _ => none
        else none
      | some false => if aboutOk E s.tmps o then recOps E fn ops rest ⟨setD s.tmps o.dst undefAV, s.H, s.D⟩ p else none
      | none => none

def recC (E : Env) (fn : FuncId) : Code → FS → PSt → Option (Ex × FS × PSt)
  | .skip, s, p => some (.normal, s, p)
  | .label _, s, p => some (.normal, s, p)
  | .ret, s, p => some (.ret, s, p)
  | .region _ ops draw, s, p => if draw then (drawRun ⟨fun _ _ _ => none, fun _ _ _ _ => none, fun _ _ _ _ => none⟩ E fn ops s).map fun s' => (.normal, s', p) else (recOps E fn ops (List.range ops.size) s p).map fun q => (.normal, q.1, q.2)
  | .seq x y, s, p => match recC E fn x s p with
    | some (.normal, s1, p1) => recC E fn y s1 p1
    | r => r
  | .cond c x y, s, p => match evT s.tmps c with
    | some (.lit (.bool true)) => recC E fn x s p
    | some (.lit (.bool false)) => recC E fn y s p
    | _ => none
  | _, _, _ => none

def PRel (σ : Sim) (h : Hp) (w : World) : PSt → FrameMode → Prop
  | none, u => u = .returning
  | some (v, b), u => ∃ x, u = .panicking [{ v := x, recovered := b }] ∧ V σ h w v x

section
variable {σ σ' σ2 : Sim} {h h' h2 : Hp} {w w' w2 : World} {P : Program} {E : Env} {O : Oracle} {tmps tmps' : List AV} {H H' H2 : List AObj} {A A2 : Nat → Prop} {a : Act} {s s' : FS} {lo : Nat} {fn : FuncId} {p p' : PSt}

theorem PRel.ext (x : Ext σ h w σ' h' w') (hr : RH σ h w) {u : FrameMode} (hp : PRel σ h w p u) : PRel σ' h' w' p u := by
  unfold PRel at hp ⊢
  split at hp
  · exact hp
  · obtain ⟨y, h1, h2⟩ := hp
    exact ⟨y, h1, h2.ext x hr⟩

/-- What is known behind a code of a deferred call. -/
def RPost (lo : Nat) (σ : Sim) (s : FS) (w : World) (c₀ : Frame) (rest : List Frame) (ex : Ex) (s' : FS) (p' : PSt) (e : Exit) (a' : Act) (cs' : List Frame) (w' : World) : Prop :=
  ∃ σ' u', ExR σ' (hpS s') w' ex e ∧ RS lo σ' s' w' a' ∧ Ext σ (hpS s) w σ' (hpS s') w' ∧ cs' = { c₀ with mode := u' } :: rest ∧ PRel σ' (hpS s') w' p' u'

theorem RPost.from {c₀ : Frame} {rest : List Frame} {s0 s1 : FS} {ex : Ex} {e : Exit} {a' : Act} {cs' : List Frame} (x : Ext σ (hpS s0) w σ' (hpS s) w') (hc : RPost lo σ' s w' c₀ rest ex s1 p' e a' cs' w2) : RPost lo σ s0 w c₀ rest ex s1 p' e a' cs' w2 :=
  let ⟨σ2, u, h1, h2, h3, h4, h5⟩ := hc; ⟨σ2, u, h1, h2, x.trans h3, h4, h5⟩

theorem wpOpsSIn_mono {F : Fence} {n : Nat} {ops : Array Oper} {Q Q' : Exit → Act → List Frame → World → Prop} (hq : ∀ e a cs w, Q e a cs w → Q' e a cs w) : ∀ (l : List Nat) (a : Act) (cs : List Frame) (w : World), wpOpsSIn F n P ops Q l a cs w → wpOpsSIn F n P ops Q' l a cs w := by
  intro l
  induction l with
  | nil => exact fun a cs w hh => hq _ _ _ _ hh
  | cons i rest ih =>
    intro a cs w hh
    simp only [wpOpsSIn] at hh ⊢
    split
    · rename_i ho
      rw [ho] at hh
      exact ih _ _ _ hh
    · rename_i o ho
      simp only [ho] at hh
      refine ⟨hh.1, ?_⟩
      have h2 := hh.2
      split
      · rename_i hw
        rw [if_pos hw] at h2
        split at h2
        · split at h2
          · exact ih _ _ _ h2
          · exact ih _ _ _ h2
        · exact ih _ _ _ h2
        · exact ih _ _ _ h2
        · exact hq _ _ _ _ h2
        · exact h2.elim
      · rename_i hw
        rw [if_neg hw] at h2
        exact ih _ _ _ h2

theorem wpSIn_mono {F : Fence} {n : Nat} {c : Code} {cs : List Frame} {Q Q' : Exit → Act → List Frame → World → Prop} (hw : c.wpSIn F n P Q a cs w) (hq : ∀ e a cs w, Q e a cs w → Q' e a cs w) : c.wpSIn F n P Q' a cs w :=
  fun b k hk hr hF hroom => let ⟨e, a', cs', w', l, q, r⟩ := hw b k hk hr hF hroom; ⟨e, a', cs', w', l, hq _ _ _ _ q, r⟩

theorem run_recover {o : Oper} (ho : isRec o = true) (w : World) : (execOp a.eval o).run P w = .ok .recover w ∧ o.about P w a.eval = none := by
  unfold isRec at ho
  split at ho
  · rename_i c hc
    split at ho
    · rename_i hcal
      obtain ⟨cal, args, tys⟩ := c
      simp only [] at hcal
      subst hcal
      refine ⟨?_, about_builtin hc⟩
      unfold execOp
      rw [hc]
      simp [resolve, invoke, builtin]
    · cases ho
  · cases ho

theorem put_slot (hr : RS lo σ s w a) (d : Option Nat) {v : AV} {x : Value} (hv : V σ (hpS s) w v x) : RS lo σ ⟨setD s.tmps d v, s.H, s.D⟩ w (a.put d x) ∧ Ext σ (hpS s) w σ (hpS ⟨setD s.tmps d v, s.H, s.D⟩) w := by
  obtain ⟨z1, z2⟩ := slot_sound (d := d) (v := v) (r := x) hr.rf rfl (Ext.refl _ _ _) hr.rf.heap (by cases v <;> first | exact hv | cases hv) fun _ => rfl
  exact ⟨⟨z1, by rw [put_defers]; exact hr.d.ext z2 hr.rf.heap⟩, z2⟩

theorem recOps_wp (hE : EnvOk P E) {ops : Array Oper} {c₀ : Frame} {rest : List Frame} : ∀ (l : List Nat) {s s' : FS} {p p' : PSt} {σ : Sim} {w : World} {a : Act} {u : FrameMode}, recOps E fn ops l s p = some (s', p') → RS lo σ s w a → PRel σ (hpS s) w p u →
    wpOpsSIn (fen P none) 0 P ops (RPost lo σ s w c₀ rest .normal s' p') l a ({ c₀ with mode := u } :: rest) w
  | [], s, s', p, p', σ, w, a, u, he, hr, hp => by
    cases he
    exact ⟨σ, u, trivial, hr, Ext.refl _ _ _, rfl, hp⟩
  | i :: l, s, s', p, p', σ, w, a, u, he, hr, hp => by
    simp only [wpOpsSIn]
    unfold recOps at he
    cases ho : ops[i]? with
    | none =>
      rw [ho] at he
      exact recOps_wp hE l he hr hp
    | some o =>
      rw [ho] at he
      simp only [] at he ⊢
      split at he
      · rename_i hw
        rw [if_pos (wantedA_sound hr.rf hw)]
        split at he
        · rename_i hrec
          obtain ⟨e1, e2⟩ := run_recover (P := P) (a := a) hrec w
          refine ⟨fun f hf => (by rw [e2] at hf; cases hf), ?_⟩
          rw [e1]
          simp only []
          split at he
          · rename_i v
            obtain ⟨x, rfl, hx⟩ := hp
            have hrd : recoverD ({ c₀ with mode := FrameMode.panicking [{ v := x, recovered := false }] } :: rest) = some (x, { c₀ with mode := .panicking [{ v := x, recovered := true }] } :: rest) := rfl
            rw [hrd]
            simp only []
            obtain ⟨r1, x1⟩ := put_slot hr o.dst hx
            exact wpOpsSIn_mono (fun e a cs w hc => hc.from x1) _ _ _ _ (recOps_wp hE l he r1 ⟨x, rfl, hx.ext x1 hr.rf.heap⟩)
          · rename_i hne
            have hrd : recoverD ({ c₀ with mode := u } :: rest) = none := by
              cases p with
              | none =>
                have : u = .returning := hp
                subst this
                rfl
              | some q =>
                obtain ⟨v, b⟩ := q
                cases b with
                | false => exact absurd rfl (hne v)
                | true =>
                  obtain ⟨x, rfl, _⟩ := hp
                  rfl
            rw [hrd]
            simp only []
            obtain ⟨r1, x1⟩ := put_slot (x := .nilIface) hr o.dst (.lit _)
            exact wpOpsSIn_mono (fun e a cs w hc => hc.from x1) _ _ _ _ (recOps_wp hE l he r1 (hp.ext x1 hr.rf.heap))
        · split at he
          · rename_i hrec hpl
            split at he
            · rename_i s1 hop
              have hd : ∀ c, o.op ≠ .defer c := fun c hc => by simp [isPlain, hc] at hpl
              have hab : o.about P w a.eval = none := by
                by_cases hcall : ∃ c, o.op = .call c
                · obtain ⟨c, hc⟩ := hcall
                  obtain ⟨cal, args, tys⟩ := c
                  cases cal with
                  | builtin b => exact about_builtin hc
                  | value g => simp [isPlain, hc] at hpl
                  | invoke r n => simp [isPlain, hc] at hpl
                · exact about_other fun c hc => hcall ⟨c, hc⟩
              unfold opGen at hop
              simp only [Option.bind_eq_bind, Option.bind_eq_some_iff, Prod.exists] at hop
              obtain ⟨e, ha, t, H', hpu, hop⟩ := hop
              cases hop
              obtain ⟨rv, w', hdo, hl⟩ := aop_sound (h := hpS s) hE.ti hr.rf (not_al s) ha
              refine ⟨fun f hf => (by rw [hab] at hf; cases hf), ?_⟩
              have key : ∀ rv, e.Leaves σ (hpS s) w s.H.length o.dst rv w' → wpOpsSIn (fen P none) 0 P ops (RPost lo σ s w c₀ rest .normal s' p') l (a.put o.dst rv) ({ c₀ with mode := u } :: rest) w' := by
                intro rv hl
                exact leaves_next (next := fun a1 w1 => wpOpsSIn (fen P none) 0 P ops (RPost lo σ s w c₀ rest .normal s' p') l a1 ({ c₀ with mode := u } :: rest) w1) (Q := fun _ _ _ => False) hr hl hpu
                  fun σ1 a1 w1 hr1 x1 => wpOpsSIn_mono (fun e a cs w hc => hc.from x1) _ _ _ _ (recOps_wp hE l he hr1 (hp.ext x1 hr.rf.heap))
              rcases hdo with hdo | ⟨hdo, rfl⟩
              · rw [hdo]
                exact key _ hl
              · rw [hdo]
                exact key _ hl
            · cases he
          · cases he
      · rename_i hw
        split at he
        · rename_i hab
          rw [if_neg (by rw [wantedA_sound hr.rf hw]; simp)]
          obtain ⟨r1, x1⟩ := skip_slot hr o.dst
          refine ⟨aboutOk_sound hE hr.rf hab, ?_⟩
          exact wpOpsSIn_mono (fun e a cs w hc => hc.from x1) _ _ _ _ (recOps_wp hE l he r1 (hp.ext x1 hr.rf.heap))
        · cases he
      · cases he

theorem noOracle_ok (P : Program) : OracleOk P ⟨fun _ _ _ => none, fun _ _ _ _ => none, fun _ _ _ _ => none⟩ :=
  ⟨fun _ _ _ _ h => (by cases h), fun _ _ _ _ _ _ h => (by cases h), fun _ _ _ _ _ _ h => (by cases h)⟩

theorem recC_wp (hE : EnvOk P E) (hm : P.follows .mixedOrders = true) {c₀ : Frame} {rest : List Frame} : ∀ (c : Code) {s s' : FS} {p p' : PSt} {ex : Ex} {σ : Sim} {w : World} {a : Act} {u : FrameMode}, recC E fn c s p = some (ex, s', p') → RS lo σ s w a → PRel σ (hpS s) w p u →
    c.wpSIn (fen P none) 0 P (RPost lo σ s w c₀ rest ex s' p') a ({ c₀ with mode := u } :: rest) w := by
  intro c
  induction c with
  | skip => intro s s' p p' ex σ w a u he hr hp; cases he; exact wpSIn_of_wpIn rfl (wpIn_skip ⟨σ, u, trivial, hr, Ext.refl _ _ _, rfl, hp⟩)
  | label l => intro s s' p p' ex σ w a u he hr hp; cases he; exact wpSIn_of_wpIn rfl (wpIn_label ⟨σ, u, trivial, hr, Ext.refl _ _ _, rfl, hp⟩)
  | ret => intro s s' p p' ex σ w a u he hr hp; cases he; exact wpSIn_of_wpIn rfl (wpIn_ret ⟨σ, u, trivial, hr, Ext.refl _ _ _, rfl, hp⟩)
  | region id ops draw =>
    intro s s' p p' ex σ w a u he hr hp
    simp only [recC] at he
    cases draw with
    | true =>
      simp only [if_true, Option.map_eq_some_iff] at he
      obtain ⟨s1, h1, he⟩ := he
      cases he
      refine wpSIn_of_wpIn rfl (wpIn_mono (draw_wp (ro := none) hE (noOracle_ok P).call hm h1 hr) fun e a1 w1 hc => ?_)
      obtain ⟨σ1, q1, q2, q3⟩ := hc
      exact ⟨σ1, u, q1, q2, q3, rfl, hp.ext q3 hr.rf.heap⟩
    | false =>
      simp only [Bool.false_eq_true, if_false, Option.map_eq_some_iff] at he
      obtain ⟨q, h1, he⟩ := he
      cases he
      exact wpSIn_region (recOps_wp hE _ h1 hr hp)
  | seq x y ihx ihy =>
    intro s s' p p' ex σ w a u he hr hp
    simp only [recC] at he
    split at he
    · rename_i s1 p1 h1
      refine wpSIn_seq (wpSIn_mono (ihx h1 hr hp) fun e a1 cs1 w1 hc => ?_)
      obtain ⟨σ1, u1, q1, q2, q3, rfl, q5⟩ := hc
      cases e <;> simp only [ExR] at q1
      exact wpSIn_mono (ihy he q2 q5) fun e a cs w hc => hc.from q3
    · rename_i hne
      refine wpSIn_seq (wpSIn_mono (ihx he hr hp) fun e a1 cs1 w1 hc => ?_)
      cases e with
      | normal =>
        obtain ⟨σ1, u1, q1, _⟩ := hc
        cases ex <;> simp only [ExR] at q1
        exact absurd he (hne _ _)
      | _ => exact hc
  | cond c x y ihx ihy =>
    intro s s' p p' ex σ w a u he hr hp
    simp only [recC] at he
    split at he
    · rename_i hc
      have h0 := evT_sound hr.rf hc
      have hcv : a.eval c = .bool true := by generalize a.eval c = u at h0; cases h0; rfl
      exact wpSIn_cond hcv (by simpa using ihx he hr hp)
    · rename_i hc
      have h0 := evT_sound hr.rf hc
      have hcv : a.eval c = .bool false := by generalize a.eval c = u at h0; cases h0; rfl
      exact wpSIn_cond hcv (by simpa using ihy he hr hp)
    · cases he
  | _ => intro s s' p p' ex σ w a u he hr hp; cases he
end
end Go.Proofs.Ytmmabdpmeijgmaa.AM
