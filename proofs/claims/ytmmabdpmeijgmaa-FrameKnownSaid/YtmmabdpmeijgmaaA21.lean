/- Regions whose order of evaluation is drawn. -/
import Derived.Test.YtmmabdpmeijgmaaA20
namespace Go.Proofs.Ytmmabdpmeijgmaa.AM
open Go

def predsOf (o : Oper) : List Nat := (o.after.toList.filter (Region.binds .any)).map (·.on)

def depsGo : List Oper → List (List Nat) → List (List Nat)
  | [], acc => acc
  | o :: r, acc => depsGo r (acc ++ [(predsOf o).flatMap fun p => p :: acc.getD p []])

def depsL (ops : Array Oper) : List (List Nat) := depsGo ops.toList []

def chkAll (ops : Array Oper) (base : Nat) (deps : List (List Nat)) : List (Nat × Eff) → Bool
  | [] => true
  | q :: r => r.all (fun p => (deps.getD p.1 []).contains q.1 || indep ops base q.1 q.2 p.1 p.2) && chkAll ops base deps r

def edgesOk (ops : Array Oper) : Bool :=
  (List.range ops.size).all fun i => match ops[i]? with
    | some o => (predsOf o).all fun p => decide (p < i)
    | none => true

def isDead : AObj → Bool
  | .dead => true
  | _ => false

def lastNw : List (Nat × Eff) → Nat
  | [] => 0
  | (i, e) :: r => max (if isNw e then i + 1 else 0) (lastNw r)

def drawRun (O : Oracle) (E : Env) (fn : FuncId) (ops : Array Oper) (s : FS) : Option FS :=
  match drun O E fn ops s.H.length (List.range ops.size) s.tmps (s.H ++ List.replicate ops.size .dead) with
  | some (es, t, H) =>
    if chkAll ops s.H.length (depsL ops) es && edgesOk ops && (H.drop (s.H.length + lastNw es)).all isDead && decide (s.H.length + lastNw es ≤ H.length) then
      some ⟨t, H.take (s.H.length + lastNw es), s.D⟩
    else none
  | none => none

def alEs (A : Nat → Prop) (es : List (Nat × Eff)) (base : Nat) : Nat → Prop := fun id => A id ∨ ∃ p ∈ es, isNw p.2 = true ∧ id = base + p.1

section
variable {σ σ' σ2 : Sim} {h h' h2 : Hp} {w w' w2 : World} {P : Program} {E : Env} {O : Oracle} {tmps tmps' : List AV} {H H' H2 : List AObj} {A A2 : Nat → Prop} {a : Act} {s s' : FS} {ro : Option Nat} {lo : Nat} {ops : Array Oper} {base : Nat} {fn : FuncId}

theorem opEff_wp (hE : EnvOk P E) (hO : OrcOk P O.call) {k : Nat} (hk : ¬ A k) {o : Oper} {e : Eff} {next : Act → World → Prop} {Q : Exit → Act → World → Prop} (hr : RF σ (hpA tmps H A) w tmps a)
    (he : opEff O E fn k o tmps H = some e) (hg : ∀ r w', e.Leaves σ (hpA tmps H A) w k o.dst r w' → next (a.put o.dst r) w') : o.wpIn (fen P ro) 0 P a w next Q := by
  have gen : (∀ c, o.op ≠ .defer c) → o.about P w a.eval = none → aop E.ti (E.loc fn) tmps (mOf tmps H) k o = some e → o.wpIn (fen P ro) 0 P a w next Q := fun hd hab he => by
    obtain ⟨rv, w', hdo, hl⟩ := aop_sound (h := hpA tmps H A) hE.ti hr hk he
    refine ⟨fun f hf => (by rw [hab] at hf; cases hf), ?_⟩
    rw [Oper.semAt_eq _ _ _ hd]
    rcases hdo with hdo | ⟨hdo, rfl⟩
    · rw [hdo]; exact hg _ _ hl
    · rw [hdo]; exact hg _ _ hl
  unfold opEff at he
  split at he
  · cases he
  · cases he
  · rename_i c ho
    obtain ⟨cal, args, tys⟩ := c
    simp only [] at he
    split at he
    · rename_i g
      split at he
      · rename_i f xs ys hgv
        split at he
        · cases he
        · simp only [Option.bind_eq_bind, Option.bind_eq_some_iff] at he
          obtain ⟨as, has, he⟩ := he
          obtain ⟨us, k1, k2, k3, k4⟩ := call_does (P := P) hr ho hgv has
          have both : (∀ us w, (callFunc f us).run P w = .ok (.enter f us) w) ∧ CallsIn (fen P none) 0 P f us w fun
              | .returned u, w' => e.Leaves σ (hpA tmps H A) w k o.dst u w'
              | _, _ => False := by
            split at he
            · exact adopt_sound (h := hpA tmps H A) hO hr.heap hk he k1 k2 o.dst
            · exact pure_sound (h := hpA tmps H A) hO hr.heap he k1 k2 k o.dst
          obtain ⟨g1, hcall⟩ := both
          refine ⟨fun f' hf' => ?_, ?_⟩
          · rw [k3] at hf'
            cases hf'
            exact hcall.1
          · rw [Oper.semAt_eq _ _ _ (by rw [ho]; simp), k4 g1, Oper.uponIn_enter]
            refine ⟨fun hh => by simp [fen] at hh, callsIn_fen (hcall.mono ?_)⟩
            intro e' w' hl
            cases e' with
            | returned u => exact hg _ _ hl
            | panicked c => exact hl.elim
            | outgrown => exact hl.elim
      · cases he
    · exact gen (by rw [ho]; simp) (about_builtin ho) he
    · cases he
  · rename_i h1 h2 h3
    exact gen (fun c hc => h2 c hc) (about_other fun c hc => h3 c hc) he

theorem chkAll_pair {deps : List (List Nat)} : ∀ (es1 : List (Nat × Eff)) {q : Nat × Eff} {es2 : List (Nat × Eff)}, chkAll ops base deps (es1 ++ q :: es2) = true →
    chkAll ops base deps (es1 ++ es2) = true ∧ ∀ p ∈ es1, (deps.getD q.1 []).contains p.1 = true ∨ indep ops base p.1 p.2 q.1 q.2 = true
  | [], q, es2, h => by
    simp only [List.nil_append, chkAll, Bool.and_eq_true] at h
    exact ⟨h.2, fun p hp => by cases hp⟩
  | x :: es1, q, es2, h => by
    simp only [List.cons_append, chkAll, Bool.and_eq_true] at h ⊢
    obtain ⟨h1, h2⟩ := chkAll_pair es1 h.2
    have hall := List.all_eq_true.1 h.1
    refine ⟨⟨List.all_eq_true.2 fun p hp => hall p ?_, h1⟩, fun p hp => ?_⟩
    · rcases List.mem_append.1 hp with hp | hp
      · simp [hp]
      · simp [hp]
    · rcases List.mem_cons.1 hp with rfl | hp
      · have := hall q (by simp)
        simpa [Bool.or_eq_true] using this
      · exact h2 p hp

/-- What stands before an operation, directly or not, has been taken if its own predecessors have. -/
theorem depsGo_spec {L : Nat → Prop} (hL : ∀ i o, ops[i]? = some o → L i → ∀ p ∈ predsOf o, L p) : ∀ (l : List Oper) (acc : List (List Nat)), (∀ i o, ops[i + acc.length]? = some o → l[i]? = some o) → (∀ (i : Nat) o, l[i]? = some o → ops[i + acc.length]? = some o) →
    (∀ (i : Nat) x o, acc[i]? = some x → ops[i]? = some o → (∀ p ∈ predsOf o, L p) → ∀ j ∈ x, L j) → ∀ (i : Nat) o, ops[i]? = some o → (∀ p ∈ predsOf o, L p) → ∀ j ∈ (depsGo l acc).getD i [], L j
  | [], acc, h0, _, hacc, i, o, ho, hp, j, hj => by
    simp only [depsGo, List.getD_eq_getElem?_getD] at hj
    cases hx : acc[i]? with
    | none => rw [hx] at hj; simp at hj
    | some x =>
      rw [hx] at hj
      exact hacc i x o hx ho hp j hj
  | o' :: l, acc, h0, h1, hacc, i, o, ho, hp, j, hj => by
    simp only [depsGo] at hj
    refine depsGo_spec hL l (acc ++ [(predsOf o').flatMap fun p => p :: acc.getD p []]) (fun i o hi => ?_) (fun i o hi => ?_) (fun i x o hi ho hp j hj => ?_) i o ho hp j hj
    · have := h0 (i + 1) o (by rw [← hi]; congr 1; simp; omega)
      simpa using this
    · have := h1 (i + 1) o (by simpa using hi)
      rw [← this]; congr 1; simp; omega
    · rw [List.getElem?_append] at hi
      split at hi
      · exact hacc i x o hi ho hp j hj
      · rename_i hlt
        have hi0 : i - acc.length = 0 := by
          have := (List.getElem?_eq_some_iff.1 hi).1
          simp at this
          omega
        rw [hi0] at hi
        simp only [List.getElem?_cons_zero, Option.some.injEq] at hi
        subst hi
        have hieq : i = acc.length := by omega
        have ho' := h1 0 o' rfl
        rw [Nat.zero_add, ← hieq, ho] at ho'
        cases ho'
        obtain ⟨p, hpm, hjm⟩ := List.mem_flatMap.1 hj
        rcases List.mem_cons.1 hjm with rfl | hjm
        · exact hp _ hpm
        · have hLp := hp p hpm
          simp only [List.getD_eq_getElem?_getD] at hjm
          cases hx : acc[p]? with
          | none => rw [hx] at hjm; simp at hjm
          | some x =>
            rw [hx] at hjm
            have hpl := (List.getElem?_eq_some_iff.1 hx).1
            have hps : p < ops.size := by
              have := (Array.getElem?_eq_some_iff.1 ho).1
              omega
            exact hacc p x ops[p] hx (Array.getElem?_eq_getElem hps) (hL p _ (Array.getElem?_eq_getElem hps) hLp) j hjm

theorem depsL_spec {L : Nat → Prop} (hL : ∀ i o, ops[i]? = some o → L i → ∀ p ∈ predsOf o, L p) {i : Nat} {o : Oper} (ho : ops[i]? = some o) (hp : ∀ p ∈ predsOf o, L p) : ∀ j ∈ (depsL ops).getD i [], L j :=
  depsGo_spec hL ops.toList [] (fun i o h => by simpa using h) (fun i o h => by simpa using h) (fun i x o h => by simp at h) i o ho hp

/-- 'tl': operations that come behind all the others, whatever is drawn. -/
theorem any_wp (hE : EnvOk P E) (hO : OrcOk P O.call) (hedge : edgesOk ops = true) {Q : Exit → Act → World → Prop} {tl : List Nat} {m : Nat} (htl : ∀ t ∈ tl, ∀ j, j < ops.size → j ∉ tl → j ∈ (depsL ops).getD t []) :
    ∀ (fuel : Nat) {rest : List Nat} {listed : Array Bool} {es : List (Nat × Eff)} {X : List AV × List AObj} {A : Nat → Prop} {σ : Sim} {w : World} {tmps : List AV} {H : List AObj} {a : Act},
    rest.length = fuel → drun O E fn ops base rest tmps H = some (es, X) → chkAll ops base (depsL ops) es = true → (∀ j, (j ∈ rest ∨ j ∈ tl) ↔ j < ops.size ∧ listed.getD j true = false) → (∀ j ∈ rest, ∀ t ∈ tl, j < t) → rest.Pairwise (· < ·) → listed.size = ops.size →
    (∀ i o, ops[i]? = some o → listed.getD i true = true → ∀ p ∈ predsOf o, listed.getD p true = true) → RF σ (hpA tmps H A) w tmps a → (∀ j ∈ rest, ¬ A (base + j)) →
    (∀ σ' a' w' listed', RF σ' (hpA X.1 X.2 (alEs A es base)) w' X.1 a' → Ext σ (hpA tmps H A) w σ' (hpA X.1 X.2 (alEs A es base)) w' → a'.defers = a.defers → (∀ j, j ∈ tl ↔ j < ops.size ∧ listed'.getD j true = false) → listed'.size = ops.size → wpAnyIn (fen P ro) 0 P .any ops Q m listed' a' w') →
    wpAnyIn (fen P ro) 0 P .any ops Q (fuel + m) listed a w := by
  intro fuel
  induction fuel with
  | zero =>
    intro rest listed es X A σ w tmps H a hlen hd hc hrest hlt0 hsort hsz hcl hr hA hQ
    have : rest = [] := List.eq_nil_of_length_eq_zero hlen
    subst this
    cases hd
    have hA0 : alEs A [] base = A := by funext id; simp [alEs]
    rw [Nat.zero_add]
    exact hQ σ a w listed (by rw [hA0]; exact hr) (by rw [hA0]; exact Ext.refl _ _ _) rfl (fun j => by rw [← hrest j]; simp) hsz
  | succ fuel ih =>
    intro rest listed es X A σ w tmps H a hlen hd hc hrest hlt0 hsort hsz hcl hr hA hQ
    rw [show fuel + 1 + m = (fuel + m) + 1 from by omega]
    refine ⟨fun hnil => ?_, fun i hi => ?_⟩
    · -- the first one is ready
      exfalso
      match rest, hlen with
      | j0 :: rest, _ =>
        obtain ⟨hj, hun⟩ := (hrest j0).1 (.inl (by simp))
        have ho : ops[j0]? = some ops[j0] := Array.getElem?_eq_getElem hj
        have : j0 ∈ Region.ready .any ops listed := by
          refine mem_ready.2 ⟨hun, ops[j0], ho, fun e he hb => ?_⟩
          have hp : e.on ∈ predsOf ops[j0] := List.mem_map.2 ⟨e, List.mem_filter.2 ⟨by simpa using he, hb⟩, rfl⟩
          have hlt : e.on < j0 := by
            have := List.all_eq_true.1 hedge j0 (by simpa using hj)
            simp only [ho] at this
            exact of_decide_eq_true (List.all_eq_true.1 this _ hp)
          have hls : e.on < listed.size := by omega
          cases hv : listed.getD e.on true with
          | true =>
            simp only [Array.getD, hls, dif_pos] at hv ⊢
            exact hv
          | false =>
            rcases (hrest e.on).2 ⟨by omega, hv⟩ with hm | hm
            · rcases List.mem_cons.1 hm with heq | hm
              · omega
              · have := (List.pairwise_cons.1 hsort).1 _ hm
                omega
            · have := hlt0 j0 (by simp) _ hm
              omega
        rw [hnil] at this
        cases this
    · obtain ⟨hun, o, ho, hall⟩ := mem_ready.1 hi
      have hlt := (Array.getElem?_eq_some_iff.1 ho).1
      have hpl : ∀ p ∈ predsOf o, listed.getD p true = true := fun p hp => by
        obtain ⟨e, he, rfl⟩ := List.mem_map.1 hp
        obtain ⟨he1, he2⟩ := List.mem_filter.1 he
        have := hall e (by simpa using he1) he2
        simp only [Array.getD] at this ⊢
        split at this
        · rename_i hh; simp [hh]; exact this
        · cases this
      have hdeps : ∀ j ∈ (depsL ops).getD i [], listed.getD j true = true := depsL_spec hcl ho hpl
      have hin : i ∈ rest := by
        rcases (hrest i).2 ⟨hlt, hun⟩ with h | h
        · exact h
        · exfalso
          match rest, hlen with
          | j0 :: rest, _ =>
            obtain ⟨hj, hun0⟩ := (hrest j0).1 (.inl (by simp))
            have hjt : j0 ∉ tl := fun hh => by have := hlt0 j0 (by simp) j0 hh; omega
            have := hdeps j0 (htl i h j0 hj hjt)
            rw [hun0] at this
            cases this
      obtain ⟨pre, post, rfl⟩ := List.append_of_mem hin
      obtain ⟨es1, ei, es2, rfl, m1, m2, hk⟩ := drun_front pre hd
      obtain ⟨hc2, hpair⟩ := chkAll_pair es1 hc
      obtain ⟨hstep, hrun⟩ := hk fun p hp => by
        rcases hpair p hp with h1 | h1
        · exfalso
          have h2 := hdeps p.1 (by simpa using h1)
          have h3 : p.1 ∈ pre := by rw [← m1]; exact List.mem_map.2 ⟨p, hp, rfl⟩
          have h4 := ((hrest p.1).1 (.inl (by simp [h3]))).2
          rw [h2] at h4
          cases h4
        · exact h1
      -- what is asked of the rest
      have hnd : i ∉ pre ++ post := by
        intro hm
        rcases List.mem_append.1 hm with hm | hm
        · have := (List.pairwise_append.1 hsort).2.2 i hm i (by simp)
          omega
        · have := (List.pairwise_cons.1 (List.pairwise_append.1 hsort).2.1).1 i hm
          omega
      have hsort' : (pre ++ post).Pairwise (· < ·) := hsort.sublist (List.Sublist.append (List.Sublist.refl _) (List.sublist_cons_self _ _))
      have hils : i < listed.size := by omega
      have getset : ∀ j, (listed.setIfInBounds i true).getD j true = if j = i then true else listed.getD j true := fun j => by
        by_cases hji : j = i
        · subst hji; simp [Array.getD, hils]
        · rw [if_neg hji]
          simp only [Array.getD, Array.size_setIfInBounds]
          split
          · simp only [Array.getInternal_eq_getElem]
            rw [Array.getElem_setIfInBounds_ne (by assumption) (Ne.symm hji)]
          · rfl
      have hit : i ∉ tl := fun hh => by have := hlt0 i hin i hh; omega
      have hrest' : ∀ j, (j ∈ pre ++ post ∨ j ∈ tl) ↔ j < ops.size ∧ (listed.setIfInBounds i true).getD j true = false := fun j => by
        rw [getset j]
        by_cases hji : j = i
        · subst hji; simp [hnd, hit]
        · rw [if_neg hji, ← hrest j]
          simp [hji]
      have hlt' : ∀ j ∈ pre ++ post, ∀ t ∈ tl, j < t := fun j hj => hlt0 j (by rcases List.mem_append.1 hj with hj | hj <;> simp [hj])
      have hcl' : ∀ j o', ops[j]? = some o' → (listed.setIfInBounds i true).getD j true = true → ∀ p ∈ predsOf o', (listed.setIfInBounds i true).getD p true = true := fun j o' hj hl p hp => by
        rw [getset p]
        split
        · rfl
        · rw [getset j] at hl
          by_cases hji : j = i
          · subst hji
            rw [ho] at hj
            cases hj
            exact hpl p hp
          · rw [if_neg hji] at hl
            exact hcl j o' hj hl p hp
      have hdst : dstOf ops i = o.dst := by simp [dstOf, ho]
      have go : ∀ (A' : Nat → Prop) (σ' : Sim) (w' : World) (r : Value), A' = alE ei (base + i) A → RF σ' (hpA (dT ops i ei tmps) (dH base i ei H) A') w' (dT ops i ei tmps) (a.put o.dst r) →
          Ext σ (hpA tmps H A) w σ' (hpA (dT ops i ei tmps) (dH base i ei H) A') w' → wpAnyIn (fen P ro) 0 P .any ops Q (fuel + m) (listed.setIfInBounds i true) (a.put o.dst r) w' := fun A' σ' w' r hA' hr' x => by
        have heqA : alEs A' (es1 ++ es2) base = alEs A (es1 ++ (i, ei) :: es2) base := by
          funext id
          subst hA'
          apply propext
          unfold alEs
          constructor
          · rintro (h | ⟨p, hp, h1, h2⟩)
            · cases ei with
              | nw v rd o =>
                rcases h with h | h
                · exact .inl h
                · exact .inr ⟨(i, .nw v rd o), List.mem_append_right _ (List.mem_cons_self ..), rfl, h⟩
              | _ => exact .inl h
            · refine .inr ⟨p, ?_, h1, h2⟩
              rcases List.mem_append.1 hp with hp | hp <;> simp [hp]
          · rintro (h | ⟨p, hp, h1, h2⟩)
            · left; cases ei <;> simp only [alE] <;> first | exact h | exact .inl h
            · rcases List.mem_append.1 hp with hp | hp
              · exact .inr ⟨p, by simp [hp], h1, h2⟩
              · rcases List.mem_cons.1 hp with rfl | hp
                · left
                  simp only [] at h1 h2
                  cases ei <;> simp only [isNw] at h1 <;> first | (cases h1; done) | exact .inr h2
                · exact .inr ⟨p, by simp [hp], h1, h2⟩
        refine ih (by simp at hlen ⊢; omega) hrun hc2 hrest' hlt' hsort' (by simp [hsz]) hcl' hr' (fun j hj hAj => ?_) (fun σ2 a2 w2 l2 h1 h2 h3 h4 h5 => ?_)
        · subst hA'
          have hAj0 := hA j (by rcases List.mem_append.1 hj with hj | hj <;> simp [hj])
          cases ei <;> simp only [alE] at hAj <;> first
            | exact hAj0 hAj
            | (rcases hAj with hAj | hAj
               · exact hAj0 hAj
               · have : j = i := by omega
                 subst this
                 exact hnd hj)
        · rw [heqA] at h1 h2
          exact hQ σ2 a2 w2 l2 h1 (x.trans h2) (h3.trans (put_defers _ _)) h4 h5
      unfold wpOpIn
      rw [ho]
      simp only []
      unfold dstep at hstep
      rw [ho] at hstep
      simp only [] at hstep
      split at hstep
      · rename_i hw
        rw [if_pos (wantedA_sound hr hw)]
        split at hstep
        · rename_i e he
          split at hstep
          · rename_i hok
            cases hstep
            refine opEff_wp hE hO (hA i (by simp)) hr he fun r w' hl => ?_
            obtain ⟨σ', h1, h2⟩ := put_sound hr hl (ok_put hok)
            rw [← hdst] at h1 h2
            exact go _ σ' w' r rfl (by rw [← hdst]; exact h1) h2
          · cases hstep
        · cases hstep
      · rename_i hw
        rw [if_neg (by rw [wantedA_sound hr hw]; simp)]
        split at hstep
        · rename_i hab
          cases hstep
          refine ⟨aboutOk_sound hE hr hab, ?_⟩
          obtain ⟨z1, z2⟩ := slot_sound (d := o.dst) (v := undefAV) (r := undef) hr rfl (Ext.refl _ _ _) hr.heap (.lit _) fun _ => rfl
          have e1 : dT ops i (.val undefAV []) tmps = setD tmps o.dst undefAV := by
            simp only [dT, hdst, tuE]
            cases o.dst <;> rfl
          have e2 : dH base i (.val undefAV []) H = H := rfl
          refine go A σ w undef rfl ?_ ?_
          · rw [e1, e2]; exact z1
          · rw [e1, e2]; exact z2
        · cases hstep
      · cases hstep

theorem RF.more (hr : RF σ (hpA tmps H A) w tmps a) (hA : ∀ id, A id → A2 id) : RF σ (hpA tmps H A2) w tmps a ∧ Ext σ (hpA tmps H A) w σ (hpA tmps H A2) w := by
  have x : Ext σ (hpA tmps H A) w σ (hpA tmps H A2) w := {
    os := rfl
    tape := rfl
    output := rfl
    size := Nat.le_refl _
    keep := fun _ _ _ => rfl
    shape := fun _ arr _ f hb => ⟨arr, f, hb, rfl⟩
    al := hA
    same := fun _ _ _ _ _ => rfl
    grow := fun _ L _ hL => ⟨L, hL, Nat.le_refl _⟩
    frozen := fun _ h => h
    fresh := fun _ h => .inl h
    new := fun _ _ h1 h2 => .inr ⟨h1, h2⟩ }
  refine ⟨⟨⟨fun l hl => ?_, hr.heap.inj, hr.heap.F, fun id hid => hA id (hr.heap.al id hid)⟩, hr.box, hr.len, fun t c u hc hu => VT_ext x hr.heap (fun _ _ => rfl) (hr.val t c u hc hu)⟩, x⟩
  obtain ⟨b, o, h1, h2, h3, h4⟩ := hr.heap.obj l hl
  exact ⟨b, o, h1, h2, obj_ext x hr.heap h3, h4⟩

theorem lastNw_spec : ∀ (es : List (Nat × Eff)) (p : Nat × Eff), p ∈ es → isNw p.2 = true → p.1 < lastNw es
  | (i, e) :: r, p, hp, hn => by
    simp only [lastNw]
    rcases List.mem_cons.1 hp with rfl | hp
    · simp only [] at hn
      rw [hn]
      simp only [if_true]
      omega
    · have := lastNw_spec r p hp hn
      omega

/-- The first n operations, in whatever order; 'tl': the rest. -/
theorem pre_wp (hE : EnvOk P E) (hO : OrcOk P O.call) {n m : Nat} (hnm : n + m = ops.size) {es : List (Nat × Eff)} {t : List AV} {H1 : List AObj} (hd : drun O E fn ops s.H.length (List.range n) s.tmps (s.H ++ List.replicate ops.size .dead) = some (es, t, H1))
    (hc1 : chkAll ops s.H.length (depsL ops) es = true) (hc2 : edgesOk ops = true) (hc3 : (H1.drop (s.H.length + lastNw es)).all isDead = true) (hc4 : s.H.length + lastNw es ≤ H1.length)
    (htl : ∀ i, n ≤ i → i < ops.size → ∀ j, j < n → j ∈ (depsL ops).getD i []) (hr : RS lo σ s w a) {Q : Exit → Act → World → Prop}
    (hQ : ∀ σ' a' w' listed', RS lo σ' ⟨t, H1.take (s.H.length + lastNw es), s.D⟩ w' a' → Ext σ (hpS s) w σ' (hpS ⟨t, H1.take (s.H.length + lastNw es), s.D⟩) w' → (∀ j, n ≤ j ∧ j < ops.size ↔ j < ops.size ∧ listed'.getD j true = false) → listed'.size = ops.size → wpAnyIn (fen P ro) 0 P .any ops Q m listed' a' w') :
    wpAnyIn (fen P ro) 0 P .any ops Q ops.size (Array.replicate ops.size false) a { w with drawn := w.drawn + 1 } := by
  have x0 : Ext σ (hpS s) w σ (hpS s) { w with drawn := w.drawn + 1 } := Ext.heap rfl rfl rfl rfl
  have hpad : hpA s.tmps (s.H ++ List.replicate ops.size .dead) (· < s.H.length) = hpS s := by
    unfold hpS hpA
    congr 1
    funext l
    cases l with
    | box t => rfl
    | blk i =>
      simp only [mOf, List.getD_eq_getElem?_getD, List.getElem?_append]
      split
      · rfl
      · rename_i hlt
        rw [List.getElem?_replicate, List.getElem?_eq_none (Nat.le_of_not_lt hlt)]
        split <;> rfl
  have hr1 : RF σ (hpS s) { w with drawn := w.drawn + 1 } s.tmps a := ⟨hr.rf.heap.heap x0 rfl, hr.rf.box, hr.rf.len, fun t c u h1 h2 => VT_ext x0 hr.rf.heap (fun _ _ => rfl) (hr.rf.val t c u h1 h2)⟩
  have hmem : ∀ j, j ∈ List.range' n m ↔ n ≤ j ∧ j < ops.size := fun j => by rw [List.mem_range'_1]; omega
  have main := any_wp (ro := ro) (Q := Q) (m := m) (tl := List.range' n m) hE hO hc2 (fun t ht j hj hjt => by
    obtain ⟨h1, h2⟩ := (hmem t).1 ht
    refine htl t h1 h2 j ?_
    rcases Nat.lt_or_ge j n with h | h
    · exact h
    · exact absurd ((hmem j).2 ⟨h, hj⟩) hjt) n (A := (· < s.H.length)) (List.length_range) hd hc1 (listed := Array.replicate ops.size false) (fun j => by
      rw [hmem j]
      simp only [List.mem_range, Array.getD, Array.size_replicate]
      constructor
      · rintro (h | h)
        · have : j < ops.size := by omega
          simp [this]
        · simp [h.2]
      · rintro ⟨h, _⟩; omega) (fun j hj t ht => by
      have h1 := ((hmem t).1 ht).1
      have h2 := List.mem_range.1 hj
      omega) (List.pairwise_lt_range) (by simp) (fun i o ho hl => by
      have := (Array.getElem?_eq_some_iff.1 ho).1
      simp [Array.getD, this] at hl) (by rw [hpad]; exact hr1) (fun j _ => by omega) (fun σ' a' w' l' h1 h2 h3 h6 h7 => by
      -- the end
      rw [hpad] at h2
      have hm1 : hpA t H1 (· < (H1.take (s.H.length + lastNw es)).length) = hpS ⟨t, H1.take (s.H.length + lastNw es), s.D⟩ := by
        unfold hpS hpA
        congr 1
        funext l
        cases l with
        | box t => rfl
        | blk i =>
          simp only [mOf, List.getD_eq_getElem?_getD, List.getElem?_take]
          split
          · rfl
          · rename_i hlt
            cases hx : H1[i]? with
            | none => rfl
            | some y =>
              have hy : y ∈ H1.drop (s.H.length + lastNw es) := by
                rw [List.mem_iff_getElem?]
                refine ⟨i - (s.H.length + lastNw es), ?_⟩
                rw [List.getElem?_drop, ← hx]
                congr 1
                omega
              have := List.all_eq_true.1 hc3 y hy
              cases y <;> simp [isDead] at this
              rfl
      obtain ⟨h4, h5⟩ := h1.more (A2 := (· < (H1.take (s.H.length + lastNw es)).length)) fun id hid => by
        simp only [List.length_take]
        rcases hid with hid | ⟨p, hp, hn, rfl⟩
        · omega
        · have := lastNw_spec es p hp hn
          omega
      rw [hm1] at h4 h5
      have x2 := (x0.trans h2).trans h5
      exact hQ σ' a' w' l' ⟨h4, by rw [h3]; exact hr.d.ext x2 hr.rf.heap⟩ x2 (fun j => by rw [← hmem j]; exact h6 j) h7)
  rw [hnm] at main
  exact main

theorem ready_nil {listed : Array Bool} (h : ∀ j, j < ops.size → listed.getD j true = true) : Region.ready .any ops listed = [] :=
  List.eq_nil_iff_forall_not_mem.2 fun i hi => by
    obtain ⟨h1, o, h2, _⟩ := mem_ready.1 hi
    have := h i (Array.getElem?_eq_some_iff.1 h2).1
    rw [h1] at this
    cases this

theorem draw_wp (hE : EnvOk P E) (hO : OrcOk P O.call) (hm : P.follows .mixedOrders = true) {id : Nat} (he : drawRun O E fn ops s = some s') (hr : RS lo σ s w a) :
    (Code.region id ops true).wpIn (fen P ro) 0 P (CPost lo σ s w .normal s') a w := by
  unfold drawRun at he
  split at he
  · rename_i es t H1 hd
    split at he
    · rename_i hc
      cases he
      simp only [Bool.and_eq_true, decide_eq_true_eq] at hc
      obtain ⟨⟨⟨hc1, hc2⟩, hc3⟩, hc4⟩ := hc
      refine wpIn_region_any hm (pre_wp (n := ops.size) (m := 0) hE hO rfl hd hc1 hc2 hc3 hc4 (fun i h1 h2 => by omega) hr fun σ' a' w' l' h1 h2 h3 h4 => ?_)
      refine ⟨ready_nil fun j hj => ?_, σ', trivial, h1, h2⟩
      cases hl : l'.getD j true with
      | true => rfl
      | false => have := (h3 j).2 ⟨hj, hl⟩; omega
    · cases he
  · cases he

def isCallV (o : Oper) : Bool :=
  match o.op with
  | .call c => (match c.callee with
    | .value _ => true
    | _ => false)
  | .panic _ => true
  | _ => false

/-- The last operation is a call that comes behind all the others, whatever is drawn: it may panic, or be given the memory. -/
def tailOk (ops : Array Oper) : Bool :=
  match ops[ops.size - 1]? with
  | some o => isCallV o && (List.range (ops.size - 1)).all (fun j => ((depsL ops).getD (ops.size - 1) []).contains j)
  | none => false

def drawTail (O : Oracle) (E : Env) (fn : FuncId) (rd : Bool) (ops : Array Oper) (s : FS) : Option (Ex × FS) :=
  match drun O E fn ops s.H.length (List.range (ops.size - 1)) s.tmps (s.H ++ List.replicate ops.size .dead) with
  | some (es, t, H) =>
    if chkAll ops s.H.length (depsL ops) es && edgesOk ops && (H.drop (s.H.length + lastNw es)).all isDead && decide (s.H.length + lastNw es ≤ H.length) then
      opsRun O E fn rd ops [ops.size - 1] ⟨t, H.take (s.H.length + lastNw es), s.D⟩
    else none
  | none => none

def drawX (O : Oracle) (E : Env) (fn : FuncId) (rd : Bool) (ops : Array Oper) (s : FS) : Option (Ex × FS) :=
  if tailOk ops then drawTail O E fn rd ops s else (drawRun O E fn ops s).map fun s' => (.normal, s')

theorem oper_wp (hE : EnvOk P E) (hO : OracleOk P O) {rd : Bool} (hrd : ro.isSome = rd) {i : Nat} {o : Oper} (ho : ops[i]? = some o) {ex : Ex} (he : opsRun O E fn rd ops [i] s = some (ex, s')) (hr : RS lo σ s w a) {K : Act → World → Prop} {Q : Exit → Act → World → Prop}
    (hK : ∀ σ' a' w', ex = .normal → RS lo σ' s' w' a' → Ext σ (hpS s) w σ' (hpS s') w' → K a' w') (hQ : ∀ e a' w', CPost lo σ s w ex s' e a' w' → Q e a' w') : wpOpIn (fen P ro) 0 P ops Q i K a w := by
  unfold wpOpIn
  unfold opsRun at he
  rw [ho] at he
  simp only [] at he
  rw [ho]
  simp only []
  split at he
  · rename_i hw
    rw [if_pos (wantedA_sound hr.rf hw)]
    split at he
    · rename_i s1 hop
      cases he
      exact opRun_wp hE hO hrd hr hop fun σ1 a1 w1 hr1 x1 => hK σ1 a1 w1 rfl hr1 x1
    · rename_i v s1 hop
      cases he
      exact opRun_wp hE hO hrd hr hop fun σ1 u w1 hr1 hv x1 => hQ _ _ _ ⟨σ1, ⟨u, rfl, hv⟩, hr1, x1⟩
    · cases he
  · rename_i hw
    split at he
    · rename_i hab
      cases he
      rw [if_neg (by rw [wantedA_sound hr.rf hw]; simp)]
      obtain ⟨hr1, x1⟩ := skip_slot hr o.dst
      exact ⟨aboutOk_sound hE hr.rf hab, hK _ _ _ rfl hr1 x1⟩
    · cases he
  · cases he

theorem tail_wp (hE : EnvOk P E) (hO : OracleOk P O) (hm : P.follows .mixedOrders = true) {rd : Bool} (hrd : ro.isSome = rd) {id : Nat} {ex : Ex} (htail : tailOk ops = true) (he : drawTail O E fn rd ops s = some (ex, s')) (hr : RS lo σ s w a) :
    (Code.region id ops true).wpIn (fen P ro) 0 P (CPost lo σ s w ex s') a w := by
  unfold drawTail at he
  unfold tailOk at htail
  split at htail
  · rename_i olast hlast
    have hpos : 0 < ops.size := by have := (Array.getElem?_eq_some_iff.1 hlast).1; omega
    simp only [Bool.and_eq_true] at htail
    have hall := htail.2
    split at he
    · rename_i es t H1 hd
      split at he
      · rename_i hc
        simp only [Bool.and_eq_true, decide_eq_true_eq] at hc
        obtain ⟨⟨⟨hc1, hc2⟩, hc3⟩, hc4⟩ := hc
        refine wpIn_region_any hm (pre_wp (n := ops.size - 1) (m := 1) hE hO.call (by omega) hd hc1 hc2 hc3 hc4 (fun i h1 h2 j hj => ?_) hr fun σ' a' w' l' h1 h2 h3 h4 => ?_)
        · have hi : i = ops.size - 1 := by omega
          subst hi
          have := List.all_eq_true.1 hall j (by simpa using hj)
          simpa using this
        · have hlt : ops.size - 1 < ops.size := by omega
          have ho : ops[ops.size - 1]? = some ops[ops.size - 1] := Array.getElem?_eq_getElem hlt
          have hun := ((h3 (ops.size - 1)).1 ⟨Nat.le_refl _, hlt⟩).2
          have honly : ∀ j, j < ops.size → l'.getD j true = false → j = ops.size - 1 := fun j hj hl => by
            have := ((h3 j).2 ⟨hj, hl⟩).1
            omega
          refine ⟨fun hnil => ?_, fun i hi => ?_⟩
          · exfalso
            have : ops.size - 1 ∈ Region.ready .any ops l' := by
              refine mem_ready.2 ⟨hun, ops[ops.size - 1], ho, fun e hee hb => ?_⟩
              have hp : e.on ∈ predsOf ops[ops.size - 1] := List.mem_map.2 ⟨e, List.mem_filter.2 ⟨by simpa using hee, hb⟩, rfl⟩
              have hlt2 : e.on < ops.size - 1 := by
                have := List.all_eq_true.1 hc2 (ops.size - 1) (by simpa using hlt)
                simp only [ho] at this
                exact of_decide_eq_true (List.all_eq_true.1 this _ hp)
              have hls : e.on < l'.size := by omega
              cases hv : l'.getD e.on true with
              | true =>
                simp only [Array.getD, hls, dif_pos] at hv ⊢
                exact hv
              | false =>
                have := honly e.on (by omega) hv
                omega
            rw [hnil] at this
            cases this
          · obtain ⟨hi1, o, hi2, _⟩ := mem_ready.1 hi
            have hieq := honly i (Array.getElem?_eq_some_iff.1 hi2).1 hi1
            subst hieq
            refine oper_wp hE hO hrd hi2 he h1 (fun σ2 a2 w2 hex hr2 x2 => ?_) fun e a2 w2 hc => hc.from h2
            subst hex
            refine ⟨ready_nil fun j hj => ?_, σ2, trivial, hr2, h2.trans x2⟩
            by_cases hji : j = ops.size - 1
            · subst hji
              have : ops.size - 1 < l'.size := by omega
              simp [Array.getD, this]
            · cases hl : l'.getD j true with
              | false => exact absurd (honly j hj hl) hji
              | true =>
                simp only [Array.getD, Array.size_setIfInBounds] at hl ⊢
                split
                · rename_i hh
                  simp only [hh, dif_pos, Array.getInternal_eq_getElem] at hl ⊢
                  rw [Array.getElem_setIfInBounds_ne hh (Ne.symm hji)]
                  exact hl
                · rfl
      · cases he
    · cases he
  · cases htail

theorem drawX_wp (hE : EnvOk P E) (hO : OracleOk P O) (hm : P.follows .mixedOrders = true) {rd : Bool} (hrd : ro.isSome = rd) {id : Nat} {ex : Ex} (he : drawX O E fn rd ops s = some (ex, s')) (hr : RS lo σ s w a) :
    (Code.region id ops true).wpIn (fen P ro) 0 P (CPost lo σ s w ex s') a w := by
  unfold drawX at he
  split at he
  · rename_i ht
    exact tail_wp hE hO hm hrd ht he hr
  · simp only [Option.map_eq_some_iff] at he
    obtain ⟨s1, h1, he⟩ := he
    cases he
    exact draw_wp hE hO.call hm h1 hr
end
end Go.Proofs.Ytmmabdpmeijgmaa.AM
