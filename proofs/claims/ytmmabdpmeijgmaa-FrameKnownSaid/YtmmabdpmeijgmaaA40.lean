/- Functions with a loop over a map. -/
import Derived.Test.YtmmabdpmeijgmaaA39
import Derived.Test.YtmmabdpmeijgmaaA29
namespace Go.Proofs.Ytmmabdpmeijgmaa.AM
open Go

section
variable {σ σ' σ2 : Sim} {h h' h2 : Hp} {w w' w2 : World} {P : Program} {E : Env} {O : Oracle} {tmps tmps' : List AV} {H H' H2 : List AObj} {A A2 : Nat → Prop} {a : Act} {s s' : FS} {ro : Option Nat} {lo : Nat}

/-- Behind a code that ends in one of several ways. -/
def NPost (lo : Nat) (σ : Sim) (s : FS) (w : World) (L : Ex → FS → Prop) (e : Exit) (a' : Act) (w' : World) : Prop := ∃ ex s', CPost lo σ s w ex s' e a' w' ∧ L ex s'

theorem chain_wp (hE : EnvOk P E) (hO : OracleOk P O) (hm : P.follows .mixedOrders = true) {fn : FuncId} {rd : Bool} (hrd : ro.isSome = rd) {x y : Code} {s1 : FS} {L : Ex → FS → Prop} (hx : execC O E fn rd x s = some (.normal, s1)) (hr : RS lo σ s w a)
    (hy : ∀ σ1 a1 w1, RS lo σ1 s1 w1 a1 → y.wpIn (fen P ro) 0 P (NPost lo σ1 s1 w1 L) a1 w1) : (Code.seq x y).wpIn (fen P ro) 0 P (NPost lo σ s w L) a w := by
  refine wpIn_seq (wpIn_mono (execC_wp hE hO hm hrd x hx hr) fun e a1 w1 hc => ?_)
  obtain ⟨rfl, σ1, hr1, x1⟩ := hc.normal
  refine wpIn_mono (hy σ1 a1 w1 hr1) fun e2 a2 w2 hq => ?_
  obtain ⟨ex, s', hq, hl⟩ := hq
  exact ⟨ex, s', hq.from x1, hl⟩

theorem last_wp (hE : EnvOk P E) (hO : OracleOk P O) (hm : P.follows .mixedOrders = true) {fn : FuncId} {rd : Bool} (hrd : ro.isSome = rd) {x : Code} {ex : Ex} {s1 : FS} {L : Ex → FS → Prop} (hx : execC O E fn rd x s = some (ex, s1)) (hl : L ex s1) (hr : RS lo σ s w a) :
    x.wpIn (fen P ro) 0 P (NPost lo σ s w L) a w :=
  wpIn_mono (execC_wp hE hO hm hrd x hx hr) fun _ _ _ hc => ⟨ex, s1, hc, hl⟩

/-- What a function hands back, from what its body ends with. -/
def leaveE (E : Env) (fns : FuncId → Option Func) (fn : Func) : Ex → FS → Option CR
  | .normal, s1 => leaveD E fns fn.results.toList s1.tmps s1.H s1.D .ret
  | .ret, s1 => leaveD E fns fn.results.toList s1.tmps s1.H s1.D .ret
  | .panic v, s1 => leaveD E fns fn.results.toList s1.tmps s1.H s1.D (.pan v)
  | _, _ => none

theorem leavesM_mono {F : Fence} {n : Nat} {fn : Func} {ts : Array Value} {R R' : Ending → World → Prop} (hq : ∀ e w, R e w → R' e w) : ∀ (ds : List Deferred) (u : FrameMode) (w : World), LeavesInM F n P fn ts R ds u w → LeavesInM F n P fn ts R' ds u w
  | [], u, w, h => by
    cases u with
    | run => exact h
    | returning => obtain ⟨v, h1, h2⟩ := h; exact ⟨v, h1, hq _ _ h2⟩
    | panicking c => exact hq _ _ h
  | d :: ds, u, w, h => by
    refine ⟨h.1, h.2.imp (fun ⟨r, w', h1, h2, h3⟩ => ⟨r, w', h1, h2, leavesM_mono hq ds u w' h3⟩) fun ⟨h1, fv, cap, f, args, h2, h3, h4, h5⟩ => ⟨h1, fv, cap, f, args, h2, h3, h4, CallsDIn.mono h5 fun e u w h => ?_⟩⟩
    cases e with
    | returned v => exact leavesM_mono hq ds _ w h
    | panicked c => exact leavesM_mono hq ds _ w h
    | outgrown => exact hq _ _ h

theorem callS_good (hE : EnvOk P E) (hm : P.follows .mixedOrders = true) {fns : FuncId → Option Func} (hfns : FnsOk P fns) {f : FuncId} {fn : Func} {body : Code} {args : List AV} {S : CR → Prop} (hf : fns f = some fn) (hb : fn.body = some body)
    (hbody : ∀ (lo : Nat) (σ : Sim) (w : World) (a : Act), RS lo σ ⟨args ++ List.replicate (fn.ntmps - args.length) undefAV, H, []⟩ w a →
      body.wpIn (fen P none) 0 P (NPost lo σ ⟨args ++ List.replicate (fn.ntmps - args.length) undefAV, H, []⟩ w fun ex s1 => ∃ r, leaveE E fns fn ex s1 = some r ∧ S r) a w) (σ : Sim) (w : World) (us : Array Value) (hr : RH σ (hp0 H) w) (hsz : us.size = args.length) (hv : ∀ (i : Nat) c (u : Value), args[i]? = some c → us[i]? = some u → V σ (hp0 H) w c u) :
    CallsIn (fen P none) 0 P f us w fun e w' => ∃ r, S r ∧ Lands σ H w r e w' := by
  have hget := hfns.get f fn hf
  refine callsIn_of_wp_marks hget hb (by show (P.funcs[f]?).isSome = true; rw [hget]; rfl) ?_
  have rel : Rel σ (hpA [] H (· < H.length)) w (args ++ List.replicate (fn.ntmps - args.length) undefAV) (us ++ Array.replicate (fn.ntmps - us.size) undef) := by
    refine ⟨by simp [hsz], fun i c u hi hu => ?_⟩
    rw [List.getElem?_append] at hi
    rw [Array.getElem?_append] at hu
    rw [hsz] at hu
    split at hi
    · rename_i hlt
      rw [if_pos hlt] at hu
      exact hv i c u hi hu
    · rename_i hlt
      rw [if_neg hlt] at hu
      rw [List.getElem?_replicate] at hi
      rw [Array.getElem?_replicate] at hu
      split at hi
      · rename_i hlt2
        rw [if_pos hlt2] at hu
        cases hi; cases hu; exact .lit _
      · cases hi
  have hrs : RS w.heap.size σ ⟨args ++ List.replicate (fn.ntmps - args.length) undefAV, H, []⟩ w { tmps := us ++ Array.replicate (fn.ntmps - us.size) undef, defers := [] } :=
    ⟨begins hr rel.noBox rel.1 rel.2, .nil (Nat.le_refl _)⟩
  have hp : hpS ⟨args ++ List.replicate (fn.ntmps - args.length) undefAV, H, []⟩ = hp0 H := hpA_noBox rel.noBox _ _
  refine wpIn_mono (hbody _ σ w _ hrs) fun e a1 w1 hc => ?_
  obtain ⟨ex, s1, ⟨σ1, h1, h2, h3⟩, r, he, hS⟩ := hc
  rw [hp] at h3
  cases ex with
  | normal =>
    cases e <;> simp only [ExR] at h1
    exact leavesM_mono (fun _ _ hl => ⟨r, hS, hl⟩) _ _ _ (leaves_sound hE hm hfns s1.D .ret he ⟨h2.rf, h3⟩ h2.d .returning rfl)
  | ret =>
    cases e <;> simp only [ExR] at h1
    exact leavesM_mono (fun _ _ hl => ⟨r, hS, hl⟩) _ _ _ (leaves_sound hE hm hfns s1.D .ret he ⟨h2.rf, h3⟩ h2.d .returning rfl)
  | panic v =>
    cases e <;> simp only [ExR] at h1
    obtain ⟨u, rfl, hv⟩ := h1
    exact leavesM_mono (fun _ _ hl => ⟨r, hS, hl⟩) _ _ _ (leaves_sound hE hm hfns s1.D (.pan v) he ⟨h2.rf, h3⟩ h2.d _ ⟨u, rfl, hv⟩)
  | exit i => cases he

theorem lands_frz (hr : RH σ (hp0 []) w) {e : Ending} {u v : AV} {rd : List Loc} (hl : Lands ⟨fun _ => none, σ.F⟩ [] w (.ret u H') e w') (hz : frz 20 (mOf [] H') u = some (v, rd)) : Lands σ [] w (.ret v []) e w' := by
  obtain ⟨x', rfl, σ2, x, hr2, hv3⟩ := hl
  have hal := frz_alive 20 hz
  have hzz := frz_sound hr2 20 hz hv3
  have F2 : ∀ b, σ2.F b → σ.F b ∨ (w.heap.size ≤ b ∧ b < w'.heap.size) := fun b hb => by
    rcases x.fresh b hb with q | q | ⟨l, q, _⟩
    · exact .inl q
    · exact .inr ⟨q, hr2.F b hb⟩
    · exact absurd (hp0_nil l) q
  obtain ⟨xe, hre⟩ := RH.away (F3 := fun b => σ2.F b ∨ ∃ l, (hp0 H').m l ≠ .dead ∧ σ2.ρ l = some b) hr hp0_nil x (fun b hb => .inl (x.frozen b hb)) (fun b hb => by
    rcases hb with hb | ⟨l, q1, q2⟩
    · exact F2 b hb
    · rcases x.new l b q1 q2 with q | ⟨q, _⟩
      · obtain ⟨b', o, j1, j2, _, _⟩ := hr2.obj l q1
        rw [q2] at j1
        cases j1
        exact .inr ⟨q, lt_of_heap j2⟩
      · exact absurd (hp0_nil l) q)
  exact ⟨x', rfl, _, xe, hre, hzz.2.2 _ (hp0 []) w' (fun b hb => hb.imp id fun ⟨l, q1, q2⟩ => ⟨l, hal l q1, q2⟩) (fun _ _ => rfl)⟩

/-- A function all of whose ends come to one value, frozen. -/
theorem callW_good (hE : EnvOk P E) (hm : P.follows .mixedOrders = true) {fns : FuncId → Option Func} (hfns : FnsOk P fns) {f : FuncId} {fn : Func} {body : Code} {args : List AV} {v : AV} (hf : fns f = some fn) (hb : fn.body = some body)
    (hbody : ∀ (lo : Nat) (σ : Sim) (w : World) (a : Act), RS lo σ ⟨args ++ List.replicate (fn.ntmps - args.length) undefAV, [], []⟩ w a →
      body.wpIn (fen P none) 0 P (NPost lo σ ⟨args ++ List.replicate (fn.ntmps - args.length) undefAV, [], []⟩ w fun ex s1 => ∃ r, leaveE E fns fn ex s1 = some r ∧ ∃ u H' rd, r = .ret u H' ∧ frz 20 (mOf [] H') u = some (v, rd)) a w) : GoodC P f args [] (.ret v []) := by
  refine ⟨hfns.eg f fn hf, fun σ w us hr hsz hv => ?_⟩
  refine (callS_good hE hm hfns hf hb hbody ⟨fun _ => none, σ.F⟩ w us (.none _ hr.F) hsz fun i c u hi hu => ?_).mono ?_
  · refine V.moved (σ := σ) (σ' := ⟨fun _ => none, σ.F⟩) (h := hp0 []) (fun id ha => ?_) (fun _ h => h) (fun id ha => ?_) (fun id ha => ha) (hv i c u hi hu)
    · exact absurd ha (by simp [hp0, hpA])
    · rfl
  · rintro e w' ⟨r, ⟨u, H', rd, rfl, hz⟩, hl⟩
    exact lands_frz hr hl hz

/-- From the loop over the map on. -/
theorem mforC_wp (hE : EnvOk P E) (hO : OracleOk P O) (hm : P.follows .mixedOrders = true) {fn : FuncId} {rd : Bool} (hrd : ro.isSome = rd) {b : Code} {ti id : Nat} (m : MapBody b ti) {R : FS → Prop} {clock : Nat} {es : List Ent3} {i0 : Nat} {ops : Array Oper} {oa ob : Oper} {s1 : FS} {t kt et : TypeId} {x : Operand}
    (hl : List.range ops.size = [0, 1]) (ha : ops[0]? = some oa) (hb : ops[1]? = some ob) (ga : oa.guard = none) (gb : ob.guard = none) (hop : ob.op = .range t x) (hdst : ob.dst = some ti) (ht : P.underlying t = some (.map kt et))
    (h1 : opRun O E fn rd oa s = some (.next s1)) (hD : s1.D = []) (hev : evT s1.tmps x = some (.map id)) (hH : s1.H[id]? = some (.map es clock)) (hold : ∀ e ∈ es, e.2.2 < clock) (hn : (es.map (·.2.2)).Nodup)
    (hR : ∀ r : Nat, Rnds O E fn rd m id R es ⟨setD s1.tmps (some ti) (.lit (.pointer (some ⟨r, 0, none⟩))), s1.H, s1.D⟩) (hlt : ti < s1.tmps.length) (hr : RS lo σ s w a) {y : Code} {L : Ex → FS → Prop}
    (hy : ∀ s2, R s2 → ∃ ex s3, execC O E fn rd y s2 = some (ex, s3) ∧ L ex s3) :
    (Code.seq (.seq (.region i0 ops false) (.block m.x (.loop b))) y).wpIn (fen P ro) 0 P (NPost lo σ s w L) a w := by
  refine wpIn_seq (wpIn_mono (mfor_wp hE hO hm hrd m hl ha hb ga gb hop hdst ht h1 hD hev hH hold hn hR hlt hr) fun e a1 w1 hc => ?_)
  obtain ⟨rfl, σ1, s2, q1, q2, q3⟩ := hc
  obtain ⟨ex, s3, k1, k2⟩ := hy s2 q1
  refine wpIn_mono (last_wp hE hO hm hrd k1 k2 q2) fun e2 a2 w2 hq => ?_
  obtain ⟨ex', s', hq, hl⟩ := hq
  exact ⟨ex', s', hq.from q3, hl⟩

/-! ### All orders, by the kernel -/

def ptrOf (ti : Nat) (s : FS) : Option Nat :=
  match s.D with
  | [] => match s.tmps[ti]? with
    | some (.lit (.pointer (some ⟨r, 0, none⟩))) => some r
    | _ => none
  | _ => none
def mapOf (id : Nat) (s : FS) : Option (List Ent3 × Nat) :=
  match s.H[id]? with
  | some (.map es c) => some (es, c)
  | _ => none

structure Seen (β : Type) where
  ps : List Nat
  ms : List (List Ent3 × Nat)
  rs : List β

def Seen.add {β : Type} (a b : Seen β) : Seen β := ⟨a.ps ++ b.ps, a.ms ++ b.ms, a.rs ++ b.rs⟩

def look (β : Type) (ti id : Nat) (s : FS) : Option (Seen β) :=
  match ptrOf ti s, mapOf id s with
  | some p, some m => some ⟨[p], [m], []⟩
  | _, _ => none

def roundS (O : Oracle) (E : Env) (fn : FuncId) (rd : Bool) {b : Code} {ti : Nat} (m : MapBody b ti) (e : Ent3) (s : FS) : Option (FS × FS × FS) :=
  match opsRun O E fn rd m.ops1 m.l1 ⟨setD s.tmps (some m.d1) (.tup [.lit (.bool true), e.1, e.2.1]), s.H, s.D⟩ with
  | some (.normal, s1) => match evT s1.tmps m.c with
    | some (.lit (.bool true)) => match opsRun O E fn rd m.ops2 m.l2 ⟨setD s1.tmps (some m.d2) (.tup [e.1, e.2.1]), s1.H, s1.D⟩ with
      | some (.normal, s2) => match execC O E fn rd m.rest s2 with
        | some (.normal, s3) => some (s1, s2, s3)
        | _ => none
      | _ => none
    | _ => none
  | _ => none

def lastS (O : Oracle) (E : Env) (fn : FuncId) (rd : Bool) {b : Code} {ti : Nat} (m : MapBody b ti) (s : FS) : Option FS :=
  match opsRun O E fn rd m.ops1 m.l1 ⟨setD s.tmps (some m.d1) (.tup [.lit (.bool false)]), s.H, s.D⟩ with
  | some (.normal, s1) => match evT s1.tmps m.c with
    | some (.lit (.bool false)) => some s1
    | _ => none
  | _ => none

/-- 'fin': what the rest of the function hands back. -/
def visit {β : Type} (O : Oracle) (E : Env) (fn : FuncId) (rd : Bool) {b : Code} {ti : Nat} (m : MapBody b ti) (id : Nat) (fin : FS → Option β) : Nat → List Ent3 → FS → Option (Seen β)
  | _, [], s => match lastS O E fn rd m s with
    | some s1 => match fin s1 with
      | some r => some ⟨[], [], [r]⟩
      | none => none
    | none => none
  | 0, _ :: _, _ => none
  | n + 1, e0 :: lf, s => (e0 :: lf).foldr (fun e acc => match acc with
    | none => none
    | some acc => match roundS O E fn rd m e s with
      | none => none
      | some (s1, s2, s3) => match look β ti id s1, look β ti id s2, look β ti id s3, visit O E fn rd m id fin n ((e0 :: lf).filter fun x => x.2.2 != e.2.2) s3 with
        | some a, some b, some c, some d => some (((a.add b).add (c.add d)).add acc)
        | _, _, _, _ => none) (some ⟨[], [], []⟩)

def Seen.Ok {β : Type} (S : Seen β) (r : Nat) (m : List Ent3 × Nat) (c : β) : Prop := (∀ x ∈ S.ps, x = r) ∧ (∀ x ∈ S.ms, x = m) ∧ ∀ x ∈ S.rs, x = c

theorem Seen.add_ok {β : Type} {S T : Seen β} {r : Nat} {m : List Ent3 × Nat} {c : β} (h : (S.add T).Ok r m c) : S.Ok r m c ∧ T.Ok r m c :=
  ⟨⟨fun x hx => h.1 x (List.mem_append_left _ hx), fun x hx => h.2.1 x (List.mem_append_left _ hx), fun x hx => h.2.2 x (List.mem_append_left _ hx)⟩,
   ⟨fun x hx => h.1 x (List.mem_append_right _ hx), fun x hx => h.2.1 x (List.mem_append_right _ hx), fun x hx => h.2.2 x (List.mem_append_right _ hx)⟩⟩

theorem look_same {β : Type} {ti id r : Nat} {es : List Ent3} {clock : Nat} {c : β} {S : Seen β} (ht : s.tmps[ti]? = some (.lit (.pointer (some ⟨r, 0, none⟩)))) (ho : s.H[id]? = some (.map es clock)) (hl : look β ti id s' = some S) (hS : S.Ok r (es, clock) c) : Same ti id s s' := by
  unfold look at hl
  split at hl
  · rename_i p m hp hm
    cases hl
    have e1 : p = r := hS.1 p (by simp)
    have e2 : m = (es, clock) := hS.2.1 m (by simp)
    subst e1 e2
    unfold ptrOf at hp
    split at hp
    · rename_i hD
      split at hp
      · rename_i r' hs
        cases hp
        unfold mapOf at hm
        split at hm
        · rename_i es' c' hh
          cases hm
          exact ⟨hD, hs.trans ht.symm, hh.trans ho.symm⟩
        · cases hm
      · cases hp
    · cases hp
  · cases hl

theorem roundS_ok {fn : FuncId} {rd : Bool} {b : Code} {ti id : Nat} {m : MapBody b ti} {e : Ent3} {s1 s2 s3 : FS} (hr : roundS O E fn rd m e s = some (s1, s2, s3)) (h1 : Same ti id s s1) (h2 : Same ti id s s2) (h3 : Same ti id s s3) : MRound O E fn rd m id e s .normal s3 := by
  unfold roundS at hr
  split at hr
  · rename_i t1 k1
    split at hr
    · rename_i k2
      split at hr
      · rename_i t2 k3
        split at hr
        · rename_i t3 k4
          cases hr
          exact ⟨_, _, k1, k2, k3, k4, h1, h2, h3⟩
        · cases hr
      · cases hr
    · cases hr
  · cases hr

theorem lastS_ok {fn : FuncId} {rd : Bool} {b : Code} {ti : Nat} {m : MapBody b ti} {s1 : FS} (hr : lastS O E fn rd m s = some s1) : MLast O E fn rd m s s1 := by
  unfold lastS at hr
  split at hr
  · rename_i t1 k1
    split at hr
    · rename_i k2
      cases hr
      exact ⟨k1, k2⟩
    · cases hr
  · cases hr

theorem visit_ok {β : Type} {fn : FuncId} {rd : Bool} {b : Code} {ti id r : Nat} {m : MapBody b ti} {fin : FS → Option β} {es : List Ent3} {clock : Nat} {v : β} : ∀ (n : Nat) {lf : List Ent3} {s : FS} {S : Seen β}, visit O E fn rd m id fin n lf s = some S → S.Ok r (es, clock) v →
    s.tmps[ti]? = some (.lit (.pointer (some ⟨r, 0, none⟩))) → s.H[id]? = some (.map es clock) → Rnds O E fn rd m id (fun s => fin s = some v) lf s
  | n, [], s, S, hv, hS, ht, ho => by
    have hv' : (match lastS O E fn rd m s with
      | some s1 => match fin s1 with
        | some r => some (⟨[], [], [r]⟩ : Seen β)
        | none => none
      | none => none) = some S := by cases n <;> exact hv
    split at hv'
    · rename_i s1 h1
      split at hv'
      · rename_i u hu
        cases hv'
        exact .done (lastS_ok h1) (hu.trans (congrArg some (hS.2.2 u (by simp))))
      · cases hv'
    · cases hv'
  | 0, _ :: _, s, S, hv, hS, ht, ho => by cases hv
  | n + 1, e0 :: lf, s, S, hv, hS, ht, ho => by
    have key : ∀ (L : List Ent3) (S : Seen β), L.foldr (fun e acc => match acc with
      | none => none
      | some acc => match roundS O E fn rd m e s with
        | none => none
        | some (s1, s2, s3) => match look β ti id s1, look β ti id s2, look β ti id s3, visit O E fn rd m id fin n ((e0 :: lf).filter fun x => x.2.2 != e.2.2) s3 with
          | some a, some b, some c, some d => some (((a.add b).add (c.add d)).add acc)
          | _, _, _, _ => none) (some (⟨[], [], []⟩ : Seen β)) = some S → S.Ok r (es, clock) v →
        ∀ e ∈ L, ∃ s1 s2 s3 d, roundS O E fn rd m e s = some (s1, s2, s3) ∧ Same ti id s s1 ∧ Same ti id s s2 ∧ Same ti id s s3 ∧ visit O E fn rd m id fin n ((e0 :: lf).filter fun x => x.2.2 != e.2.2) s3 = some d ∧ d.Ok r (es, clock) v := by
      intro L
      induction L with
      | nil => intro S _ _ e he; cases he
      | cons x L ih =>
        intro S hf hS e he
        rw [List.foldr_cons] at hf
        split at hf
        · cases hf
        · rename_i acc hacc
          split at hf
          · cases hf
          · rename_i s1 s2 s3 hround
            split at hf
            · rename_i a b c d h1 h2 h3 h4
              cases hf
              obtain ⟨q1, q2⟩ := Seen.add_ok hS
              obtain ⟨q3, q4⟩ := Seen.add_ok q1
              obtain ⟨q5, q6⟩ := Seen.add_ok q3
              obtain ⟨q7, q8⟩ := Seen.add_ok q4
              rcases List.mem_cons.1 he with rfl | he
              · exact ⟨s1, s2, s3, d, hround, look_same ht ho h1 q5, look_same ht ho h2 q6, look_same ht ho h3 q7, h4, q8⟩
              · exact ih acc hacc q2 e he
            · cases hf
    have hk := key (e0 :: lf) S hv hS
    have hn : ∀ e ∈ e0 :: lf, ∃ s1 s2 d, roundS O E fn rd m e s = some (s1, s2, (match roundS O E fn rd m e s with | some (_, _, s3) => s3 | none => s)) ∧ Same ti id s s1 ∧ Same ti id s s2 ∧ Same ti id s (match roundS O E fn rd m e s with | some (_, _, s3) => s3 | none => s) ∧
        visit O E fn rd m id fin n ((e0 :: lf).filter fun x => x.2.2 != e.2.2) (match roundS O E fn rd m e s with | some (_, _, s3) => s3 | none => s) = some d ∧ d.Ok r (es, clock) v := by
      intro e he
      obtain ⟨s1, s2, s3, d, h1, h2, h3, h4, h5, h6⟩ := hk e he
      rw [h1]
      exact ⟨s1, s2, d, rfl, h2, h3, h4, h5, h6⟩
    refine .step (fun e => match roundS O E fn rd m e s with | some (_, _, s3) => s3 | none => s) (fun e he => ?_) fun e he => ?_
    · obtain ⟨s1, s2, d, h1, h2, h3, h4, h5, h6⟩ := hn e he
      exact roundS_ok h1 h2 h3 h4
    · obtain ⟨s1, s2, d, h1, h2, h3, h4, h5, h6⟩ := hn e he
      exact visit_ok n h5 h6 (h4.t.trans ht) (h4.o.trans ho)

/-- One entry first, and then the other ones in any order. -/
def visitE {β : Type} (O : Oracle) (E : Env) (fn : FuncId) (rd : Bool) {b : Code} {ti : Nat} (m : MapBody b ti) (id : Nat) (fin : FS → Option β) (n : Nat) (lf : List Ent3) (e : Ent3) (s : FS) : Option (Seen β) :=
  match roundS O E fn rd m e s with
  | none => none
  | some (s1, s2, s3) => match look β ti id s1, look β ti id s2, look β ti id s3, visit O E fn rd m id fin n (lf.filter fun x => x.2.2 != e.2.2) s3 with
    | some a, some b, some c, some d => some ((a.add b).add (c.add d))
    | _, _, _, _ => none

theorem visitE_ok {β : Type} {fn : FuncId} {rd : Bool} {b : Code} {ti id r n : Nat} {m : MapBody b ti} {fin : FS → Option β} {es : List Ent3} {clock : Nat} {v : β} {e0 : Ent3} {lf : List Ent3}
    (hv : ∀ e ∈ e0 :: lf, ∃ S, visitE O E fn rd m id fin n (e0 :: lf) e s = some S ∧ S.Ok r (es, clock) v)
    (ht : s.tmps[ti]? = some (.lit (.pointer (some ⟨r, 0, none⟩)))) (ho : s.H[id]? = some (.map es clock)) : Rnds O E fn rd m id (fun s => fin s = some v) (e0 :: lf) s := by
  have hn : ∀ e ∈ e0 :: lf, ∃ s1 s2 d, roundS O E fn rd m e s = some (s1, s2, (match roundS O E fn rd m e s with | some (_, _, s3) => s3 | none => s)) ∧ Same ti id s s1 ∧ Same ti id s s2 ∧ Same ti id s (match roundS O E fn rd m e s with | some (_, _, s3) => s3 | none => s) ∧
      visit O E fn rd m id fin n ((e0 :: lf).filter fun x => x.2.2 != e.2.2) (match roundS O E fn rd m e s with | some (_, _, s3) => s3 | none => s) = some d ∧ d.Ok r (es, clock) v := by
    intro e he
    obtain ⟨S, h1, hS⟩ := hv e he
    unfold visitE at h1
    split at h1
    · cases h1
    · rename_i s1 s2 s3 hround
      split at h1
      · rename_i a b c d k1 k2 k3 k4
        cases h1
        obtain ⟨q3, q4⟩ := Seen.add_ok hS
        obtain ⟨q5, q6⟩ := Seen.add_ok q3
        obtain ⟨q7, q8⟩ := Seen.add_ok q4
        rw [hround]
        exact ⟨s1, s2, d, rfl, look_same ht ho k1 q5, look_same ht ho k2 q6, look_same ht ho k3 q7, k4, q8⟩
      · cases h1
  refine .step (fun e => match roundS O E fn rd m e s with | some (_, _, s3) => s3 | none => s) (fun e he => ?_) fun e he => ?_
  · obtain ⟨s1, s2, d, h1, h2, h3, h4, h5, h6⟩ := hn e he
    exact roundS_ok h1 h2 h3 h4
  · obtain ⟨s1, s2, d, h1, h2, h3, h4, h5, h6⟩ := hn e he
    exact visit_ok n h5 h6 (h4.t.trans ht) (h4.o.trans ho)

/-- Codes one behind the other, and what follows. -/
def spine : List Code → Code → Code
  | [], c => c
  | x :: l, c => .seq x (spine l c)

def runL (O : Oracle) (E : Env) (fn : FuncId) (rd : Bool) : List Code → FS → Option FS
  | [], s => some s
  | x :: l, s => match execC O E fn rd x s with
    | some (.normal, s1) => runL O E fn rd l s1
    | _ => none

theorem spine_wp (hE : EnvOk P E) (hO : OracleOk P O) (hm : P.follows .mixedOrders = true) {fn : FuncId} {rd : Bool} (hrd : ro.isSome = rd) {y : Code} {L : Ex → FS → Prop} {s1 : FS} : ∀ (l : List Code) {s : FS} {σ : Sim} {w : World} {a : Act}, runL O E fn rd l s = some s1 → RS lo σ s w a →
    (∀ σ1 a1 w1, RS lo σ1 s1 w1 a1 → y.wpIn (fen P ro) 0 P (NPost lo σ1 s1 w1 L) a1 w1) → (spine l y).wpIn (fen P ro) 0 P (NPost lo σ s w L) a w
  | [], s, σ, w, a, h, hr, hy => by cases h; exact hy σ a w hr
  | x :: l, s, σ, w, a, h, hr, hy => by
    unfold runL at h
    split at h
    · rename_i s2 h2
      exact chain_wp hE hO hm hrd h2 hr fun σ1 a1 w1 hr1 => spine_wp hE hO hm hrd l h hr1 hy
    · cases h

/-- What a function hands back in the end, frozen. -/
def finF (O : Oracle) (E : Env) (fns : FuncId → Option Func) (f : FuncId) (fn : Func) (rd : Bool) (y : Code) (s : FS) : Option AV :=
  match execC O E f rd y s with
  | some (ex, s1) => match leaveE E fns fn ex s1 with
    | some (.ret u H') => (frz 20 (mOf [] H') u).map (·.1)
    | _ => none
  | none => none

theorem finF_ok {fns : FuncId → Option Func} {f : FuncId} {fn : Func} {rd : Bool} {y : Code} {v : AV} (h : finF O E fns f fn rd y s = some v) :
    ∃ ex s3, execC O E f rd y s = some (ex, s3) ∧ ∃ r, leaveE E fns fn ex s3 = some r ∧ ∃ u H' rd, r = .ret u H' ∧ frz 20 (mOf [] H') u = some (v, rd) := by
  unfold finF at h
  split at h
  · rename_i ex s1 h1
    split at h
    · rename_i u H' h2
      simp only [Option.map_eq_some_iff] at h
      obtain ⟨⟨v', rd⟩, hz, rfl⟩ := h
      exact ⟨ex, s1, h1, _, h2, u, H', rd, rfl, hz⟩
    · cases h
  · cases h

/-- Where the map is ranged over. -/
structure MapFor (b : Code) (ti : Nat) where
  i0 : Nat
  ops : Array Oper
  oa : Oper
  ob : Oper
  t : TypeId
  x : Operand
  body : MapBody b ti
  hl : List.range ops.size = [0, 1]
  ha : ops[0]? = some oa
  hb : ops[1]? = some ob
  ga : oa.guard = none
  gb : ob.guard = none
  hop : ob.op = .range t x
  hdst : ob.dst = some ti

theorem callM_good {β : Type} {fin : FS → Option β} {z : β} (hE : EnvOk P E) (hO : OracleOk P O) (hm : P.follows .mixedOrders = true) {fns : FuncId → Option Func} (hfns : FnsOk P fns) {f : FuncId} {fn : Func} {args : List AV} {v : AV} {b : Code} {ti id : Nat} {l : List Code} {y : Code} (F : MapFor b ti) {kt et : TypeId} {sA s1 : FS} {es : List Ent3} {clock : Nat}
    (hf : fns f = some fn) (hb : fn.body = some (spine l (.seq (.seq (.region F.i0 F.ops false) (.block F.body.x (.loop b))) y))) (ht : P.underlying F.t = some (.map kt et))
    (hA : runL O E f false l ⟨args ++ List.replicate (fn.ntmps - args.length) undefAV, [], []⟩ = some sA) (h1 : opRun O E f false F.oa sA = some (.next s1)) (hD : s1.D = []) (hev : evT s1.tmps F.x = some (.map id)) (hH : s1.H[id]? = some (.map es clock)) (hold : ∀ e ∈ es, e.2.2 < clock) (hn : (es.map (·.2.2)).Nodup) (hlt : ti < s1.tmps.length)
    (hfin : ∀ s, fin s = some z → ∃ ex s3, execC O E f false y s = some (ex, s3) ∧ ∃ r, leaveE E fns fn ex s3 = some r ∧ ∃ u H' rd, r = .ret u H' ∧ frz 20 (mOf [] H') u = some (v, rd))
    (hR : ∀ r : Nat, Rnds O E f false F.body id (fun s => fin s = some z) es ⟨setD s1.tmps (some ti) (.lit (.pointer (some ⟨r, 0, none⟩))), s1.H, s1.D⟩) : GoodC P f args [] (.ret v []) := by
  refine callW_good hE hm hfns hf hb fun lo σ w a hr => ?_
  refine spine_wp hE hO hm rfl l hA hr fun σ1 a1 w1 hr1 => ?_
  refine mforC_wp (R := fun s => fin s = some z) hE hO hm rfl F.body F.hl F.ha F.hb F.ga F.gb F.hop F.hdst ht h1 hD hev hH hold hn hR hlt hr1 fun s2 h2 => ?_
  exact hfin s2 h2
end
end Go.Proofs.Ytmmabdpmeijgmaa.AM
