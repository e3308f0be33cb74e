/- A function: its body, and how its frame is left. -/
import Derived.Test.YtmmabdpmeijgmaaA22B
namespace Go.Proofs.Ytmmabdpmeijgmaa.AM
open Go

def resVar (ti : TI) (tmps : List AV) (H : List AObj) : ResultVar → Option AV
  | .tmp t => evT tmps (.tmp t)
  | .cell a t => do
    let ad ← evA tmps (.tmp a)
    let e ← aLoad ti (mOf tmps H) t ad
    some e.v

def packA : List AV → AV
  | [v] => v
  | vs => .tup vs

inductive LM where
  | ret
  | pan (v : AV)

def psOf : LM → PSt
  | .ret => none
  | .pan v => some (v, false)

def lmOf : PSt → LM
  | some (v, false) => .pan v
  | _ => .ret

/-- A deferred call of a function. -/
def deferRun (E : Env) (fns : FuncId → Option Func) (f : FuncId) (args : List AV) (H : List AObj) (p : PSt) : Option (List AObj × PSt) :=
  match fns f with
  | none => none
  | some fn => match fn.body with
    | none => none
    | some body => match recC E f body ⟨args ++ List.replicate (fn.ntmps - args.length) undefAV, H, []⟩ p with
      | some (.normal, s1, p1) => if s1.D.isEmpty && (fn.results.toList.mapM (resVar E.ti s1.tmps s1.H)).isSome then some (s1.H, p1) else none
      | some (.ret, s1, p1) => if s1.D.isEmpty && (fn.results.toList.mapM (resVar E.ti s1.tmps s1.H)).isSome then some (s1.H, p1) else none
      | _ => none

def leaveD (E : Env) (fns : FuncId → Option Func) (rs : List ResultVar) (tmps : List AV) (H : List AObj) : List ADef → LM → Option CR
  | [], .ret => (rs.mapM (resVar E.ti tmps H)).map fun vs => .ret (packA vs) H
  | [], .pan v => some (.pan v H)
  | .mark :: D, m => leaveD E fns rs tmps H D m
  | .call f args :: D, m => match deferRun E fns f args H (psOf m) with
    | some (H', p') => leaveD E fns rs tmps H' D (lmOf p')
    | none => none

def callF (O : Oracle) (E : Env) (fns : FuncId → Option Func) (f : FuncId) (args : List AV) (H : List AObj) : Option CR :=
  match fns f with
  | none => none
  | some fn => match fn.body with
    | none => none
    | some body => match execC O E f false body ⟨args ++ List.replicate (fn.ntmps - args.length) undefAV, H, []⟩ with
      | some (.normal, s1) => leaveD E fns fn.results.toList s1.tmps s1.H s1.D .ret
      | some (.ret, s1) => leaveD E fns fn.results.toList s1.tmps s1.H s1.D .ret
      | some (.panic v, s1) => leaveD E fns fn.results.toList s1.tmps s1.H s1.D (.pan v)
      | _ => none

structure FnsOk (P : Program) (fns : FuncId → Option Func) : Prop where
  get : ∀ f fn, fns f = some fn → P.funcs[f]? = some fn
  eg : ∀ f fn, fns f = some fn → ∀ us w, (callFunc f us).run P w = .ok (.enter f us) w

section
variable {σ σ' σ2 : Sim} {h h' h2 : Hp} {w w' w2 : World} {P : Program} {E : Env} {O : Oracle} {tmps tmps' : List AV} {H H' H2 : List AObj} {A A2 : Nat → Prop} {a : Act} {s s' : FS} {ro : Option Nat} {lo : Nat}

theorem V.world (hF : ∀ b, σ.F b → w'.heap[b]? = w.heap[b]?) (ho : ∀ l b, h.m l ≠ .dead → σ.ρ l = some b → w'.heap[b]? = w.heap[b]?) {c : AV} {u : Value} (hv : V σ h w c u) : V σ h w' c u := by
  induction hv with
  | lit v => exact .lit v
  | ptr hs ha hr => exact .ptr hs ha hr
  | ptrS hu ha hs => exact .ptrS hu ha hs
  | rptr vs hsp hf h1 hc hv hz ih => exact .rptr vs hsp hf h1 (fun i c hi => (cell?_congr (by rw [block_add]; exact hF _ hf)).trans (hc i c hi)) ih hz
  | slc hs ha hr hb hlc hcap => exact .slc hs ha hr ((ho _ _ (alive_of_stamp hs) hr).trans hb) hlc hcap
  | slcS hu ha hs => exact .slcS hu ha hs
  | rslc vs hsp hf h1 hlc hc hv hz ih => exact .rslc vs hsp hf h1 hlc (fun i e hi j c hj => (cell?_congr (by rw [block_add]; exact hF _ hf)).trans (hc i e hi j c hj)) ih hz
  | rslc0 => exact .rslc0
  | z0 => exact .z0
  | map hs ha hr => exact .map hs ha hr
  | mapS hu ha hs => exact .mapS hu ha hs
  | fn hx hy h1 h2 ih1 ih2 => exact .fn hx hy ih1 ih2
  | yld hs ha hr => exact .yld hs ha hr
  | yldS hu ha hs => exact .yldS hu ha hs
  | ifc hv ih => exact .ifc ih
  | agg hl h1 hv ih => exact .agg hl h1 ih
  | tup hl hv ih => exact .tup hl ih
  | dead u => exact .dead u

theorem obj_world (hF : ∀ b, σ.F b → w'.heap[b]? = w.heap[b]?) (ho : ∀ l b, h.m l ≠ .dead → σ.ρ l = some b → w'.heap[b]? = w.heap[b]?) {x : AObj} {o : Obj} (hx : ObjRel σ h w x o) : ObjRel σ h w' x o := by
  have k : ∀ {c : AV} {u : Value}, V σ h w c u → V σ h w' c u := fun hv => hv.world hF ho
  cases x with
  | dead => trivial
  | cells cs =>
    cases o <;> simp only [ObjRel] at hx ⊢
    rename_i arr e f
    obtain ⟨lo, hi⟩ := f
    obtain ⟨h1, h2, h3, h4⟩ := hx
    exact ⟨h1, h2, h3, fun i c hi => let ⟨u, h5, h6, h7⟩ := h4 i c hi; ⟨u, h5, h6, k h7⟩⟩
  | map es clock =>
    cases o <;> simp only [ObjRel] at hx ⊢
    obtain ⟨h1, h2, h4⟩ := hx
    exact ⟨h1, h2, fun i c hi => let ⟨u, h5, h6, h7, h8⟩ := h4 i c hi; ⟨u, h5, k h6, k h7, h8⟩⟩
  | loop st pend fn tmps ps asg body =>
    cases o <;> simp only [ObjRel] at hx ⊢
    obtain ⟨h1, h2, h3, h4, h5, h6, h7, h8⟩ := hx
    exact ⟨h1, h2, h3, h4, h5, h6, h7, fun i c u hi hu => k (h8 i c u hi hu)⟩

/-- What a frame has when it leaves. -/
structure LS (σ0 : Sim) (h0 : Hp) (w0 : World) (σ : Sim) (h : Hp) (w : World) (tmps : List AV) (a : Act) : Prop where
  rf : RF σ h w tmps a
  ext : Ext σ0 h0 w0 σ h w

theorem LS.mark {σ0 : Sim} {h0 : Hp} {w0 : World} (hl : LS σ0 h0 w0 σ h w tmps a) {r : Nat} (hh : w.heap[r]? = some (.deferred (some []))) (hn : ∀ l, h.m l ≠ .dead → σ.ρ l ≠ some r) (hF : ¬ σ.F r) (hlo : w0.heap.size ≤ r) (o : Obj) (hnc : ∀ arr e f, o ≠ .cells arr e f) :
    LS σ0 h0 w0 σ h (w.putObj r o) tmps a := by
  have hr := lt_of_heap hh
  have other : ∀ b, b ≠ r → (w.putObj r o).heap[b]? = w.heap[b]? := fun b hb => World.putObj_heap_other hb
  have kF : ∀ b, σ.F b → (w.putObj r o).heap[b]? = w.heap[b]? := fun b hb => other b (by rintro rfl; exact hF hb)
  have kO : ∀ l b, h.m l ≠ .dead → σ.ρ l = some b → (w.putObj r o).heap[b]? = w.heap[b]? := fun l b hl hb => other b (by rintro rfl; exact hn l hl hb)
  refine ⟨⟨⟨fun l hl' => ?_, hl.rf.heap.inj, fun b hb => ?_, hl.rf.heap.al⟩, hl.rf.box, hl.rf.len, fun t c u hc hu => ?_⟩, ?_⟩
  · obtain ⟨b, o', h1, h2, h3, h4⟩ := hl.rf.heap.obj l hl'
    exact ⟨b, o', h1, (kO l b hl' h1).trans h2, obj_world kF kO h3, h4⟩
  · have := hl.rf.heap.F b hb; simpa [World.putObj] using this
  · exact VT_congr (fun _ => rfl) (fun hv => hv.world kF kO) (hl.rf.val t c u hc hu)
  · have x := hl.ext
    exact {
      os := x.os
      tape := x.tape
      output := x.output
      size := by simpa [World.putObj] using x.size
      keep := fun b hb hn' => (other b (by omega)).trans (x.keep b hb hn')
      shape := fun b arr e f hb => by
        obtain ⟨arr', f', h1, h2⟩ := x.shape b arr e f hb
        refine ⟨arr', f', (other b ?_).trans h1, h2⟩
        have := lt_of_heap hb
        omega
      al := x.al
      same := x.same
      grow := x.grow
      frozen := x.frozen
      fresh := x.fresh
      new := x.new }

theorem DRs.put {r : Nat} {o : Obj} (hF : ¬ σ.F r) (hn : ∀ l, h.m l ≠ .dead → σ.ρ l ≠ some r) {d : List ADef} {y : List Deferred} (hd : DRs lo σ h w d y) : (∀ z ∈ y, z.target ≠ .collected r) → DRs lo σ h (w.putObj r o) d y := by
  have other : ∀ b, b ≠ r → (w.putObj r o).heap[b]? = w.heap[b]? := fun b hb => World.putObj_heap_other hb
  have kF : ∀ b, σ.F b → (w.putObj r o).heap[b]? = w.heap[b]? := fun b hb => other b (by rintro rfl; exact hF hb)
  have kO : ∀ l b, h.m l ≠ .dead → σ.ρ l = some b → (w.putObj r o).heap[b]? = w.heap[b]? := fun l b hl hb => other b (by rintro rfl; exact hn l hl hb)
  induction hd with
  | nil h0 => exact fun _ => .nil (by simpa [World.putObj] using h0)
  | cons h1 h2 h3 ih =>
    intro hz
    refine .cons ?_ (ih fun z hm => hz z (List.mem_cons_of_mem _ hm)) h3
    cases h1 with
    | mark hh hn' hF' hlo => exact .mark ((other _ (by rintro rfl; exact hz _ (List.mem_cons_self ..) rfl)).trans hh) hn' hF' hlo
    | call hsz hv => exact .call hsz fun i c u hi hu => (hv i c u hi hu).world kF kO

theorem run_mapM {f : ResultVar → Sem Value} {g : ResultVar → Option AV} (hfg : ∀ x c, g x = some c → ∃ v, (f x).run P w = .ok v w ∧ V σ h w c v) : ∀ (l : List ResultVar) {cs : List AV}, l.mapM g = some cs →
    ∃ vs : List Value, (l.mapM f).run P w = .ok vs w ∧ vs.length = cs.length ∧ ∀ (i : Nat) c (u : Value), cs[i]? = some c → vs[i]? = some u → V σ h w c u
  | [], cs, h => by
    simp at h
    subst h
    exact ⟨[], rfl, rfl, fun i c u hi => by simp at hi⟩
  | x :: l, cs, h => by
    simp only [List.mapM_cons, Option.bind_eq_bind, Option.bind_eq_some_iff] at h
    obtain ⟨c, hc, cs', hcs, h⟩ := h
    cases h
    obtain ⟨v, h1, h2⟩ := hfg x c hc
    obtain ⟨vs, h3, h4, h5⟩ := run_mapM hfg l hcs
    refine ⟨v :: vs, ?_, by simp [h4], fun i c' u hi hu => ?_⟩
    · simp only [List.mapM_cons, Sem.run_bind, h1, Result.andThen_ok, h3]
      rfl
    · match i with
      | 0 => simp at hi hu; subst hi hu; exact h2
      | i + 1 => exact h5 i c' u (by simpa using hi) (by simpa using hu)

theorem resVar_sound (hti : TIok P E.ti) (hr : RF σ (hpA tmps H A) w tmps a) {x : ResultVar} {c : AV} (hc : resVar E.ti tmps H x = some c) :
    ∃ v, ((match x with | .tmp t => pure (a.tmps.getD t undef) | .cell ad t => do loadVar t (← asAddr (a.tmps.getD ad undef)) : Sem Value)).run P w = .ok v w ∧ V σ (hpA tmps H A) w c v := by
  cases x with
  | tmp t =>
    have hc : evT tmps (.tmp t) = some c := hc
    exact ⟨_, rfl, evT_sound hr hc⟩
  | cell ad t =>
    simp only [resVar, Option.bind_eq_bind, Option.bind_eq_some_iff] at hc
    obtain ⟨x, hx, e, he, hc⟩ := hc
    cases hc
    have hv := evA_sound hr hx
    have hv : VA σ (hpA tmps H A) w x (a.tmps.getD ad undef) := hv
    obtain ⟨v, h1, h2⟩ := aLoad_sound (P := P) hti hr.heap (show aLoad E.ti (hpA tmps H A).m t x = some e from he) hv
    have hp : ∃ ar, a.tmps.getD ad undef = .pointer (some ar) := by
      unfold aLoad at he
      simp only [Option.bind_eq_bind, Option.bind_eq_some_iff, Prod.exists] at he
      obtain ⟨g, hg, n, hn, cs, rd, hcs, _⟩ := he
      obtain ⟨ar, us, h3, _⟩ := cellsAt_sound hr.heap (show cellsAt (hpA tmps H A).m x n = some (cs, rd) from hcs) hv
      exact ⟨ar, h3⟩
    obtain ⟨ar, hp⟩ := hp
    refine ⟨v, ?_, h2⟩
    simp only [hp] at h1 ⊢
    simpa [Instr.loadAt, Instr.sureAddr, asAddr] using h1

theorem results_sound (hti : TIok P E.ti) (hr : RF σ (hpA tmps H A) w tmps a) {fn : Func} {cs : List AV} (hc : fn.results.toList.mapM (resVar E.ti tmps H) = some cs) :
    ∃ v, (results fn a.tmps).run P w = .ok v w ∧ V σ (hpA tmps H A) w (packA cs) v := by
  obtain ⟨vs, h1, h2, h3⟩ := run_mapM (P := P) (w := w) (σ := σ) (h := hpA tmps H A) (fun x c hx => resVar_sound hti hr hx) fn.results.toList hc
  have h4 : (results fn a.tmps).run P w = .ok (if h : vs.toArray.size = 1 then vs.toArray[0] else .tuple vs.toArray) w := by
    unfold results
    simp only [Sem.run_bind]
    rw [Array.mapM_eq_mapM_toList]
    simp only [map_eq_pure_bind, Sem.run_bind]
    show ((Sem.run P (List.mapM (fun x => match x with | .tmp t => pure (a.tmps.getD t undef) | .cell ad t => do loadVar t (← asAddr (a.tmps.getD ad undef))) fn.results.toList : Sem (List Value)) w).andThen _).andThen _ = _
    rw [h1]
    rfl
  refine ⟨_, h4, ?_⟩
  clear h1 h4 hc
  match cs, vs, h2, h3 with
  | [c], [v], _, h3 => exact h3 0 c v rfl rfl
  | [], [], _, _ => exact .tup rfl fun i c u hi => by simp at hi
  | c :: c' :: cs, v :: v' :: vs, h2, h3 => exact .tup (by simpa using h2) fun i c u hi hu => h3 i c u hi (by simpa using hu)

theorem defer_rel {args : List AV} {us : Array Value} (hsz : us.size = args.length) (hv : ∀ (i : Nat) c (u : Value), args[i]? = some c → us[i]? = some u → V σ (hp0 H) w c u) (n : Nat) :
    Rel σ (hpA [] H (· < H.length)) w (args ++ List.replicate (n - args.length) undefAV) (us ++ Array.replicate (n - us.size) undef) := by
  refine ⟨by simp [hsz], fun i c u hi hu => ?_⟩
  rw [List.getElem?_append] at hi
  rw [Array.getElem?_append] at hu
  rw [hsz] at hu
  split at hi
  · rename_i hlt
    rw [if_pos hlt] at hu
    exact hv i c u hi hu
  · rename_i hlt
    rw [if_neg hlt] at hu
    rw [List.getElem?_replicate] at hi
    rw [Array.getElem?_replicate] at hu
    split at hi
    · rename_i hlt2
      rw [if_pos hlt2] at hu
      cases hi; cases hu; exact .lit _
    · cases hi

theorem leaves_sound (hE : EnvOk P E) (hm : P.follows .mixedOrders = true) {fns : FuncId → Option Func} (hfns : FnsOk P fns) {fn : Func} {σ0 : Sim} {H0 : List AObj} {w0 : World} {r : CR} : ∀ (D : List ADef) (m : LM) {H : List AObj} {y : List Deferred} {σ : Sim} {w : World} {a : Act},
    leaveD E fns fn.results.toList tmps H D m = some r → LS σ0 (hp0 H0) w0 σ (hpA tmps H (· < H.length)) w tmps a → DRs w0.heap.size σ (hpA tmps H (· < H.length)) w D y →
    ∀ u, (match m with | .ret => u = .returning | .pan v => ∃ x, u = .panicking [{ v := x, recovered := false }] ∧ V σ (hpA tmps H (· < H.length)) w v x) →
    LeavesInM (fen P none) 0 P fn a.tmps (Lands σ0 H0 w0 r) y u w := by
  have hti := hE.ti
  intro D
  induction D with
  | nil =>
    intro m H y σ w a he hl hd u hu
    cases hd
    have hnb : ∀ {c x}, V σ (hpA tmps H (· < H.length)) w c x → V σ (hp0 H) w c x := fun hv => V.blks (σ := σ) (σ' := σ) (h := hpA tmps H (· < H.length)) (h' := hp0 H) (fun _ => rfl) (fun _ h => h) (fun _ => rfl) (fun _ h => h) hv
    cases m with
    | ret =>
      subst hu
      simp only [leaveD, Option.map_eq_some_iff] at he
      obtain ⟨cs, hcs, he⟩ := he
      subst he
      obtain ⟨v, h1, h2⟩ := results_sound hti hl.rf hcs
      exact ⟨v, h1, v, rfl, σ, hl.ext.noBoxes, hl.rf.heap.noBoxes, hnb h2⟩
    | pan v =>
      obtain ⟨x, rfl, hv⟩ := hu
      simp only [leaveD, Option.some.injEq] at he
      subst he
      exact ⟨x, rfl, σ, hl.ext.noBoxes, hl.rf.heap.noBoxes, hnb hv⟩
  | cons d D ih =>
    intro m H y σ w a he hl hd u hu
    have hrun : u ≠ .run := by
      cases m with
      | ret => subst hu; simp
      | pan v => obtain ⟨x, rfl, _⟩ := hu; simp
    cases d with
    | call f args =>
      have he : (match deferRun E fns f args H (psOf m) with
        | some (H', p') => leaveD E fns fn.results.toList tmps H' D (lmOf p')
        | none => none) = some r := by cases m <;> exact he
      have hnb : ∀ {c x}, V σ (hpA tmps H (· < H.length)) w c x → V σ (hp0 H) w c x := fun hv => V.blks (σ := σ) (σ' := σ) (h := hpA tmps H (· < H.length)) (h' := hp0 H) (fun _ => rfl) (fun _ h => h) (fun _ => rfl) (fun _ h => h) hv
      cases hd with
      | @cons _ _ _ ys1 h1 h2 h3 =>
        cases h1 with
        | @call _ _ xs cap hsz hv =>
          unfold deferRun at he
          cases hf : fns f with
          | none => rw [hf] at he; cases he
          | some g =>
            rw [hf] at he
            simp only [] at he
            cases hb : g.body with
            | none => rw [hb] at he; cases he
            | some body =>
              rw [hb] at he
              simp only [] at he
              have hget := hfns.get f g hf
              have hF : (fen P none).fn f := by show (P.funcs[f]?).isSome = true; rw [hget]; rfl
              cases hx : recC E f body ⟨args ++ List.replicate (g.ntmps - args.length) undefAV, H, []⟩ (psOf m) with
              | none => rw [hx] at he; cases he
              | some q =>
                obtain ⟨ex, s1, p1⟩ := q
                rw [hx] at he
                have hex : (ex = .normal ∨ ex = .ret) ∧ s1.D = [] ∧ (g.results.toList.mapM (resVar E.ti s1.tmps s1.H)).isSome = true ∧ leaveD E fns fn.results.toList tmps s1.H D (lmOf p1) = some r := by
                  cases ex with
                  | normal =>
                    simp only [] at he
                    by_cases hc : (s1.D.isEmpty && (g.results.toList.mapM (resVar E.ti s1.tmps s1.H)).isSome) = true
                    · rw [if_pos hc] at he
                      simp only [Bool.and_eq_true, List.isEmpty_iff] at hc
                      exact ⟨.inl rfl, hc.1, hc.2, he⟩
                    · rw [if_neg hc] at he; cases he
                  | ret =>
                    simp only [] at he
                    by_cases hc : (s1.D.isEmpty && (g.results.toList.mapM (resVar E.ti s1.tmps s1.H)).isSome) = true
                    · rw [if_pos hc] at he
                      simp only [Bool.and_eq_true, List.isEmpty_iff] at hc
                      exact ⟨.inr rfl, hc.1, hc.2, he⟩
                    · rw [if_neg hc] at he; cases he
                  | exit i => cases he
                  | panic v => cases he
                obtain ⟨hex, hD, hres, he⟩ := hex
                obtain ⟨cs, hcs⟩ := Option.isSome_iff_exists.1 hres
                have rel := defer_rel (H := H) hsz (fun i c u hi hu => hnb (hv i c u hi hu)) g.ntmps
                have hrs : RS w.heap.size σ ⟨args ++ List.replicate (g.ntmps - args.length) undefAV, H, []⟩ w { tmps := (xs ++ cap) ++ Array.replicate (g.ntmps - (xs ++ cap).size) undef, defers := [] } :=
                  ⟨begins hl.rf.heap.noBoxes rel.noBox rel.1 rel.2, .nil (Nat.le_refl _)⟩
                have hps : hpS ⟨args ++ List.replicate (g.ntmps - args.length) undefAV, H, []⟩ = hp0 H := hpA_noBox rel.noBox _ _
                have hp0' : PRel σ (hpS ⟨args ++ List.replicate (g.ntmps - args.length) undefAV, H, []⟩) w (psOf m) u := by
                  rw [hps]
                  cases m with
                  | ret => exact hu
                  | pan v => obtain ⟨x, h1, h2⟩ := hu; exact ⟨x, h1, hnb h2⟩
                refine ⟨hrun, .inr ⟨fun hh => by simp [fen] at hh, .func f, cap, f, xs ++ cap, rfl, ?_, fun k hk => ?_, ?_⟩⟩
                · exact hfns.eg f g hf _ w
                · have hk : some f = some k := hk
                  cases hk
                  exact hF
                · refine callsDIn_of_wpSIn hget hb hF fun c₀ cs0 hc => ?_
                  have hc0 : ({ c₀ with mode := u } : Frame) = c₀ := by subst hc; rfl
                  have key := recC_wp hE hm (c₀ := c₀) (rest := cs0) body hx hrs hp0'
                  rw [hc0] at key
                  refine wpSIn_mono key fun e a1 cs1 w1 hc1 => ?_
                  obtain ⟨σ1, u1, q1, q2, q3, rfl, q5⟩ := hc1
                  rw [hps] at q3
                  have hdef : a1.defers = [] := by
                    have hh := q2.d
                    rw [hD] at hh
                    generalize a1.defers = ds at hh
                    cases hh
                    rfl
                  obtain ⟨v, r1, _⟩ := results_sound (P := P) hti q2.rf hcs
                  obtain ⟨j1, j2, j3⟩ := rejoin (H2 := s1.H) (A2 := (· < s1.H.length)) hl.rf q3.noBoxes q2.rf.heap.noBoxes
                  have hnb1 : ∀ {c x}, V σ1 (hpS s1) w1 c x → V (joinS σ σ1) (hpA tmps s1.H (· < s1.H.length)) w1 c x := fun hv =>
                    j3 (V.blks (σ := σ1) (σ' := σ1) (h := hpS s1) (h' := hpA [] s1.H (· < s1.H.length)) (fun _ => rfl) (fun _ h => h) (fun _ => rfl) (fun _ h => h) hv)
                  have main : LeavesInM (fen P none) 0 P fn a.tmps (Lands σ0 H0 w0 r) ys1 (settle u1) w1 := by
                    refine ih (lmOf p1) he ⟨j1, hl.ext.trans j2⟩ (h2.ext j2 hl.rf.heap) (settle u1) ?_
                    match p1, q5 with
                    | none, q5 => have : u1 = .returning := q5; subst this; rfl
                    | some (v, true), q5 => obtain ⟨x, rfl, _⟩ := q5; rfl
                    | some (v, false), q5 => obtain ⟨x, rfl, hx⟩ := q5; exact ⟨x, rfl, hnb1 hx⟩
                  rcases hex with rfl | rfl
                  · cases e <;> simp only [ExR] at q1
                    exact ⟨hdef, u1, rfl, v, r1, main⟩
                  · cases e <;> simp only [ExR] at q1
                    exact ⟨hdef, u1, rfl, v, r1, main⟩
    | mark =>
      have he' : leaveD E fns fn.results.toList tmps H D m = some r := by cases m <;> exact he
      cases hd with
      | cons h1 h2 h3 =>
        cases h1 with
        | @mark b hh hn hF hlo =>
          refine ⟨hrun, .inl ⟨b, _, rfl, run_takeDeferred hh, ?_⟩⟩
          have hl' := hl.mark hh hn hF hlo (.deferred none) (by simp)
          refine ih m he' hl' (h2.put hF hn (h3 b rfl)) u ?_
          cases m with
          | ret => exact hu
          | pan v =>
            obtain ⟨x, hx, hv⟩ := hu
            exact ⟨x, hx, hv.world (fun b' hb' => World.putObj_heap_other (by rintro rfl; exact hF hb')) fun l b' hl hb' => World.putObj_heap_other (by rintro rfl; exact hn l hl hb')⟩

theorem callF_good (hE : EnvOk P E) (hO : OracleOk P O) (hm : P.follows .mixedOrders = true) {fns : FuncId → Option Func} (hfns : FnsOk P fns) {f : FuncId} {args : List AV} {r : CR} (he : callF O E fns f args H = some r) : GoodC P f args H r := by
  unfold callF at he
  cases hf : fns f with
  | none => rw [hf] at he; cases he
  | some fn =>
    rw [hf] at he
    simp only [] at he
    cases hb : fn.body with
    | none => rw [hb] at he; cases he
    | some body =>
      rw [hb] at he
      simp only [] at he
      have hget := hfns.get f fn hf
      refine ⟨hfns.eg f fn hf, fun σ w us hr hsz hv => ?_⟩
      refine callsIn_of_wp_marks hget hb (by show (P.funcs[f]?).isSome = true; rw [hget]; rfl) ?_
      have rel : Rel σ (hpA [] H (· < H.length)) w (args ++ List.replicate (fn.ntmps - args.length) undefAV) (us ++ Array.replicate (fn.ntmps - us.size) undef) := by
        refine ⟨by simp [hsz], fun i c u hi hu => ?_⟩
        rw [List.getElem?_append] at hi
        rw [Array.getElem?_append] at hu
        rw [hsz] at hu
        split at hi
        · rename_i hlt
          rw [if_pos hlt] at hu
          exact hv i c u hi hu
        · rename_i hlt
          rw [if_neg hlt] at hu
          rw [List.getElem?_replicate] at hi
          rw [Array.getElem?_replicate] at hu
          split at hi
          · rename_i hlt2
            rw [if_pos hlt2] at hu
            cases hi; cases hu; exact .lit _
          · cases hi
      have hrs : RS w.heap.size σ ⟨args ++ List.replicate (fn.ntmps - args.length) undefAV, H, []⟩ w { tmps := us ++ Array.replicate (fn.ntmps - us.size) undef, defers := [] } :=
        ⟨begins hr rel.noBox rel.1 rel.2, .nil (Nat.le_refl _)⟩
      have hp : hpS ⟨args ++ List.replicate (fn.ntmps - args.length) undefAV, H, []⟩ = hp0 H := hpA_noBox rel.noBox _ _
      cases hx : execC O E f false body ⟨args ++ List.replicate (fn.ntmps - args.length) undefAV, H, []⟩ with
      | none => rw [hx] at he; cases he
      | some q =>
        obtain ⟨ex, s1⟩ := q
        rw [hx] at he
        refine wpIn_mono (execC_wp (ro := none) hE hO hm rfl body hx hrs) fun e a1 w1 hc => ?_
        obtain ⟨σ1, h1, h2, h3⟩ := hc
        rw [hp] at h3
        cases ex with
        | normal =>
          cases e <;> simp only [ExR] at h1
          exact leaves_sound hE hm hfns s1.D .ret he ⟨h2.rf, h3⟩ h2.d .returning rfl
        | ret =>
          cases e <;> simp only [ExR] at h1
          exact leaves_sound hE hm hfns s1.D .ret he ⟨h2.rf, h3⟩ h2.d .returning rfl
        | panic v =>
          cases e <;> simp only [ExR] at h1
          obtain ⟨u, rfl, hv⟩ := h1
          exact leaves_sound hE hm hfns s1.D (.pan v) he ⟨h2.rf, h3⟩ h2.d _ ⟨u, rfl, hv⟩
        | exit i => cases he
end
end Go.Proofs.Ytmmabdpmeijgmaa.AM
