/- Operations that leave each other alone. -/
import Derived.Test.YtmmabdpmeijgmaaA19
namespace Go.Proofs.Ytmmabdpmeijgmaa.AM
open Go

theorem frzL_local {F F' : AV → Option (AV × List Loc)} {m m' : Loc → AObj} (hF : ∀ c c' rd, F c = some (c', rd) → Agree m m' rd → F' c = some (c', rd)) : ∀ {cs cs' : List AV} {rd : List Loc}, frzL F cs = some (cs', rd) → Agree m m' rd → frzL F' cs = some (cs', rd)
  | [], _, _, h, _ => by cases h; rfl
  | c :: cs, cs', rd, h, ha => by
    simp only [frzL, Option.bind_eq_bind, Option.bind_eq_some_iff, Prod.exists] at h ⊢
    obtain ⟨c', r, h1, cs1, r1, h2, h⟩ := h
    cases h
    exact ⟨c', r, hF _ _ _ h1 fun l hl => ha l (by simp [hl]), cs1, r1, frzL_local hF h2 fun l hl => ha l (by simp [hl]), rfl⟩

theorem frz_local {m m' : Loc → AObj} : ∀ (n : Nat) (c c' : AV) (rd : List Loc), frz n m c = some (c', rd) → Agree m m' rd → frz n m' c = some (c', rd) := by
  intro n
  induction n with
  | zero => intro c c' rd h; cases h
  | succ n ih =>
    intro c c' rd h ha
    simp only [frz] at h ⊢
    have lst : ∀ {cs cs' : List AV} {rd : List Loc}, frzL (frz n m) cs = some (cs', rd) → Agree m m' rd → frzL (frz n m') cs = some (cs', rd) := fun h ha => frzL_local ih h ha
    unfold frzStep at h ⊢
    split at h
    · exact h
    · exact h
    · exact h
    · exact h
    · split at h
      · rename_i cs hm
        split at h
        · rename_i hc
          simp only [Option.bind_eq_bind, Option.bind_eq_some_iff, Prod.exists] at h
          obtain ⟨cs', rd', hl, h⟩ := h
          cases h
          simp only [ha.one, hm]
          rw [if_pos hc, lst hl fun l hl => ha l (List.mem_cons_of_mem _ hl)]
          rfl
        · cases h
      · cases h
    · split at h
      · rename_i cs hm
        split at h
        · rename_i hc
          simp only [Option.bind_eq_bind, Option.bind_eq_some_iff, Prod.exists] at h
          obtain ⟨cs', rd', hl, h⟩ := h
          cases h
          simp only [ha.one, hm]
          rw [if_pos hc, lst hl fun l hl => ha l (List.mem_cons_of_mem _ hl)]
          rfl
        · cases h
      · cases h
    · simp only [Option.bind_eq_bind, Option.bind_eq_some_iff, Prod.exists] at h ⊢
      obtain ⟨xs', r, hx, ys', r', hy, h⟩ := h
      cases h
      exact ⟨xs', r, lst hx fun l hl => ha l (by simp [hl]), ys', r', lst hy fun l hl => ha l (by simp [hl]), rfl⟩
    · simp only [Option.bind_eq_bind, Option.bind_eq_some_iff, Prod.exists] at h ⊢
      obtain ⟨v', r, hx, h⟩ := h
      cases h
      exact ⟨v', _, ih _ _ _ hx ha, rfl⟩
    · simp only [Option.bind_eq_bind, Option.bind_eq_some_iff, Prod.exists] at h ⊢
      obtain ⟨v', r, hx, h⟩ := h
      cases h
      exact ⟨v', _, lst hx ha, rfl⟩
    · simp only [Option.bind_eq_bind, Option.bind_eq_some_iff, Prod.exists] at h ⊢
      obtain ⟨v', r, hx, h⟩ := h
      cases h
      exact ⟨v', _, lst hx ha, rfl⟩
    · cases h

theorem aPure_local {R : Orc} {m m' : Loc → AObj} {f : FuncId} {args : List AV} {e : Eff} (he : aPure R m f args = some e) (ha : Agree m m' e.rds) : aPure R m' f args = some e := by
  unfold aPure at he ⊢
  simp only [Option.bind_eq_bind, Option.bind_eq_some_iff, Prod.exists] at he ⊢
  obtain ⟨fargs, rd, hf, r, hc, he⟩ := he
  refine ⟨fargs, rd, frzL_local (frz_local 20) hf ?_, r, hc, he⟩
  split at he
  · simp only [Option.bind_eq_some_iff, Prod.exists] at he
    obtain ⟨v', rd2, _, he⟩ := he
    split at he
    · cases he; exact ha
    · cases he
  · cases he

theorem aAdopt_local {R : Orc} {m m' : Loc → AObj} {k : Nat} {f : FuncId} {args : List AV} {e : Eff} (he : aAdopt R m k f args = some e) (ha : Agree m m' e.rds) : aAdopt R m' k f args = some e := by
  unfold aAdopt at he ⊢
  simp only [Option.bind_eq_bind, Option.bind_eq_some_iff, Prod.exists] at he ⊢
  obtain ⟨fargs, rd, hf, r, hc, he⟩ := he
  refine ⟨fargs, rd, frzL_local (frz_local 20) hf ?_, r, hc, he⟩
  split at he
  · split at he
    · split at he
      · split at he
        · cases he; exact ha
        · cases he
      · cases he
    · cases he; exact ha
    · cases he
  · cases he

/-- The effect of an operation that neither panics nor is given the memory. -/
def opEff (O : Oracle) (E : Env) (fn : FuncId) (k : Nat) (o : Oper) (tmps : List AV) (H : List AObj) : Option Eff :=
  match o.op with
  | .panic _ => none
  | .defer _ => none
  | .call c => match c.callee with
    | .value g => match evT tmps g with
      | some (.fn (.func f) xs ys) => if E.opn f then none else do
        let as ← evs tmps c.args
        if E.adp f then aAdopt O.call (mOf tmps H) k f (xs ++ as ++ ys) else aPure O.call (mOf tmps H) f (xs ++ as ++ ys)
      | _ => none
    | .builtin _ => aop E.ti (E.loc fn) tmps (mOf tmps H) k o
    | _ => none
  | _ => aop E.ti (E.loc fn) tmps (mOf tmps H) k o

def tuE (e : Eff) (d : Option Nat) : Option (Nat × AV) :=
  match e with
  | .val v _ => d.map fun t => (t, v)
  | .wr v _ (.blk _) _ => d.map fun t => (t, v)
  | .wr _ _ (.box t) o => match o with
    | .cells cs => some (t, .lbox cs)
    | _ => none
  | .nw v _ _ => d.map fun t => (t, v)
  | .bx _ => none

def huE (e : Eff) (k : Nat) : Option (Nat × AObj) :=
  match e with
  | .wr _ _ (.blk id) o => some (id, o)
  | .nw _ _ o => some (k, o)
  | _ => none

def updT (u : Option (Nat × AV)) (tmps : List AV) : List AV :=
  match u with
  | some (t, v) => tmps.set t v
  | none => tmps
def updH (u : Option (Nat × AObj)) (H : List AObj) : List AObj :=
  match u with
  | some (i, o) => H.set i o
  | none => H

def isLbox (tmps : List AV) (t : Nat) : Bool :=
  match tmps[t]? with
  | some (.lbox _) => true
  | _ => false

/-- Is the slot that is written a variable, which stays one? -/
def boxWr : Eff → Bool
  | .wr _ _ (.box _) _ => true
  | _ => false

def okE (e : Eff) (k : Nat) (d : Option Nat) (tmps : List AV) (H : List AObj) : Bool :=
  match e with
  | .val v _ => (match v with | .lbox _ => false | _ => true)
  | .wr v _ (.blk id) _ => decide (id < H.length) && (match v with | .lbox _ => false | _ => true)
  | .wr _ _ (.box t) o => d.isNone && (match o with | .cells _ => true | _ => false) && isLbox tmps t
  | .nw v _ _ => decide (k < H.length) && (match v with | .lbox _ => false | _ => true)
  | .bx _ => false

theorem ok_put {e : Eff} {k : Nat} {d : Option Nat} {tmps : List AV} {H : List AObj} (h : okE e k d tmps H = true) : putE e k d tmps H = some (updT (tuE e d) tmps, updH (huE e k) H) := by
  cases e with
  | val v rd => cases d <;> rfl
  | wr v rd l o =>
    cases l with
    | blk id =>
      simp only [okE, Bool.and_eq_true, decide_eq_true_eq] at h
      simp only [putE, h.1, if_true]
      cases d <;> rfl
    | box t =>
      simp only [okE, Bool.and_eq_true] at h
      obtain ⟨⟨h1, h2⟩, h3⟩ := h
      have hd : d = none := by cases d <;> simp_all
      subst hd
      unfold isLbox at h3
      split at h3
      · rename_i cs ht
        cases o <;> simp at h2
        simp [putE, ht, tuE, huE, updT, updH]
      · cases h3
  | nw v rd o =>
    simp only [okE, Bool.and_eq_true, decide_eq_true_eq] at h
    simp only [putE, setB, h.1, if_true, Option.map_some]
    cases d <;> rfl
  | bx cs => cases h

def isNw : Eff → Bool
  | .nw _ _ _ => true
  | _ => false

def dstep (O : Oracle) (E : Env) (fn : FuncId) (ops : Array Oper) (base i : Nat) (tmps : List AV) (H : List AObj) : Option Eff :=
  match ops[i]? with
  | none => none
  | some o => match wantedA ops tmps o with
    | some true => match opEff O E fn (base + i) o tmps H with
      | some e => if okE e (base + i) o.dst tmps H then some e else none
      | none => none
    | some false => if aboutOk E tmps o then some (.val undefAV []) else none
    | none => none

def dstOf (ops : Array Oper) (i : Nat) : Option Nat := (ops[i]?).bind (·.dst)

def dT (ops : Array Oper) (i : Nat) (e : Eff) (tmps : List AV) : List AV := updT (tuE e (dstOf ops i)) tmps
def dH (base i : Nat) (e : Eff) (H : List AObj) : List AObj := updH (huE e (base + i)) H

def drun (O : Oracle) (E : Env) (fn : FuncId) (ops : Array Oper) (base : Nat) : List Nat → List AV → List AObj → Option (List (Nat × Eff) × List AV × List AObj)
  | [], tmps, H => some ([], tmps, H)
  | i :: rest, tmps, H => match dstep O E fn ops base i tmps H with
    | some e => match drun O E fn ops base rest (dT ops i e tmps) (dH base i e H) with
      | some (es, X) => some ((i, e) :: es, X)
      | none => none
    | none => none

/-- The slots that an operation looks at. -/
def usesT (ops : Array Oper) (i : Nat) : List Nat :=
  match ops[i]? with
  | none => []
  | some o => (o.op.operands.toList.filterMap fun | .tmp t => some t | _ => none) ++
    (match o.guard with
     | some (j, _) => (dstOf ops j).toList
     | none => [])

/-- What an operation writes. -/
def wlE (e : Eff) (d : Option Nat) (k : Nat) : List Loc :=
  ((tuE e d).map fun p => Loc.box p.1).toList ++ ((huE e k).map fun p => Loc.blk p.1).toList

def isShallow (ops : Array Oper) (j : Nat) : Bool :=
  match ops[j]? with
  | some o => shallow o.op
  | none => false
def isStore (ops : Array Oper) (i : Nat) : Bool :=
  match ops[i]? with
  | some o => o.dst.isNone && (match o.op with
    | .store _ _ _ => true
    | _ => false) && o.guard.isNone
  | none => false

def half (ops : Array Oper) (base i : Nat) (ei : Eff) (j : Nat) (ej : Eff) : Bool :=
  (boxWr ei || (match tuE ei (dstOf ops i) with | some (t, _) => !(usesT ops j).contains t | none => true)) &&
  ((wlE ei (dstOf ops i) (base + i)).all (fun l => !ej.rds.contains l) || (isStore ops i && isShallow ops j))

def slotNe {α : Type} (x y : Option (Nat × α)) : Bool :=
  match x, y with
  | some (t, _), some (t', _) => t != t'
  | _, _ => true

def indep (ops : Array Oper) (base i : Nat) (ei : Eff) (j : Nat) (ej : Eff) : Bool :=
  half ops base i ei j ej && half ops base j ej i ei &&
  slotNe (tuE ei (dstOf ops i)) (tuE ej (dstOf ops j)) && slotNe (huE ei (base + i)) (huE ej (base + j))

section
variable {O : Oracle} {E : Env} {fn : FuncId} {ops : Array Oper} {base : Nat} {tmps tmps' : List AV} {H H' : List AObj}

/-- Two states look alike to an operation. -/
structure Alike (ops : Array Oper) (j : Nat) (e : Eff) (tmps : List AV) (H : List AObj) (tmps' : List AV) (H' : List AObj) : Prop where
  t : ∀ t ∈ usesT ops j, evT tmps' (.tmp t) = evT tmps (.tmp t) ∧ evA tmps' (.tmp t) = evA tmps (.tmp t)
  m : Agree (mOf tmps H) (mOf tmps' H') e.rds ∨ (isShallow ops j = true ∧ StampAgree (mOf tmps H) (mOf tmps' H') e.rds)
  len : H'.length = H.length
  box : ∀ t v, tuE e (dstOf ops j) = some (t, v) → boxWr e = true → isLbox tmps' t = isLbox tmps t

theorem opEff_local {k : Nat} {o : Oper} {e : Eff} (he : opEff O E fn k o tmps H = some e) (ht : SameOps tmps tmps' o.op.operands) (hm : Agree (mOf tmps H) (mOf tmps' H') e.rds) :
    opEff O E fn k o tmps' H' = some e := by
  unfold opEff at he ⊢
  split at he
  · cases he
  · cases he
  · rename_i c ho
    obtain ⟨cal, args, tys⟩ := c
    simp only [ho, Op.operands, Call.operands] at ht
    simp only [] at he ⊢
    split at he
    · rename_i g
      simp only [] at ht
      rw [(ht g (by simp)).1]
      split at he
      · split at he
        · cases he
        · rename_i hopn
          rw [if_neg hopn]
          rw [evs_local fun x hx => (ht x (by simp [hx])).1]
          simp only [Option.bind_eq_bind, Option.bind_eq_some_iff] at he ⊢
          obtain ⟨as, has, he⟩ := he
          refine ⟨as, has, ?_⟩
          split at he
          · rename_i had
            rw [if_pos had]
            exact aAdopt_local he hm
          · rename_i had
            rw [if_neg had]
            exact aPure_local he hm
      · cases he
    · exact aop_local he (by rw [ho]; exact ht) hm
    · cases he
  · exact aop_local he ht hm

theorem opEff_shallow {k : Nat} {o : Oper} {e : Eff} (he : opEff O E fn k o tmps H = some e) (hsh : shallow o.op = true) (ht : SameOps tmps tmps' o.op.operands) (hm : StampAgree (mOf tmps H) (mOf tmps' H') e.rds) :
    opEff O E fn k o tmps' H' = some e := by
  have h1 : ∀ tmps H, opEff O E fn k o tmps H = aop E.ti (E.loc fn) tmps (mOf tmps H) k o := by
    intro tmps H
    unfold opEff
    cases ho : o.op <;> first | rfl | (rw [ho] at hsh; cases hsh)
  rw [h1] at he ⊢
  rw [aop_tmps ht]
  exact aop_shallow he hsh hm

theorem wantedA_local {o : Oper} (h : ∀ j b d, o.guard = some (j, b) → dstOf ops j = some d → evT tmps' (.tmp d) = evT tmps (.tmp d)) : wantedA ops tmps' o = wantedA ops tmps o := by
  unfold wantedA
  cases hg : o.guard with
  | none => rfl
  | some p =>
    obtain ⟨j, b⟩ := p
    simp only []
    cases hd : (ops[j]?).bind (·.dst) with
    | none => rfl
    | some d => simp only [h j b d hg hd]

theorem aboutOk_local {o : Oper} (ht : SameOps tmps tmps' o.op.operands) : aboutOk E tmps' o = aboutOk E tmps o := by
  unfold aboutOk
  split
  · rename_i c ho
    obtain ⟨cal, args, tys⟩ := c
    simp only [ho, Op.operands, Call.operands] at ht
    cases cal with
    | value g =>
      simp only [] at ht ⊢
      rw [(ht g (by simp)).1]
    | builtin b => rfl
    | invoke r m => rfl
  · rfl

theorem same_of {j : Nat} {o : Oper} {e : Eff} (ho : ops[j]? = some o) (h : Alike ops j e tmps H tmps' H') : SameOps tmps tmps' o.op.operands := by
  intro x hx
  cases x with
  | tmp t => exact h.t t (by unfold usesT; rw [ho]; simp only [List.mem_append, List.mem_filterMap]; exact .inl ⟨.tmp t, by simpa using hx, rfl⟩)
  | const v => exact ⟨rfl, rfl⟩
  | func f => exact ⟨rfl, rfl⟩
  | global g => exact ⟨rfl, rfl⟩

theorem okE_local {e : Eff} {k : Nat} {d : Option Nat} (hl : H'.length = H.length) (hb : ∀ t v, tuE e d = some (t, v) → boxWr e = true → isLbox tmps' t = isLbox tmps t) (h : okE e k d tmps H = true) : okE e k d tmps' H' = true := by
  cases e with
  | val v rd => exact h
  | wr v rd l o =>
    cases l with
    | blk id => simp only [okE, hl] at h ⊢; exact h
    | box t =>
      simp only [okE, Bool.and_eq_true] at h ⊢
      refine ⟨h.1, ?_⟩
      cases o <;> simp at h
      rename_i cs
      rw [hb t (.lbox cs) rfl rfl]
      exact h.2
  | nw v rd o => simp only [okE, hl] at h ⊢; exact h
  | bx cs => cases h

theorem dstep_local {j : Nat} {e : Eff} (he : dstep O E fn ops base j tmps H = some e) (h : Alike ops j e tmps H tmps' H') : dstep O E fn ops base j tmps' H' = some e := by
  unfold dstep at he ⊢
  cases ho : ops[j]? with
  | none => rw [ho] at he; cases he
  | some o =>
    rw [ho] at he
    simp only [] at he ⊢
    have hs := same_of ho h
    have hw : wantedA ops tmps' o = wantedA ops tmps o := wantedA_local fun j' b d hg hd => (h.t d (by
      unfold usesT
      rw [ho]
      simp only [List.mem_append]
      exact .inr (by rw [hg]; simp [hd]))).1
    rw [hw]
    split at he
    · split at he
      · rename_i e' he'
        split at he
        · rename_i hok
          cases he
          have hop : opEff O E fn (base + j) o tmps' H' = some e := by
            rcases h.m with hm | ⟨h1, h2⟩
            · exact opEff_local he' hs hm
            · refine opEff_shallow he' ?_ hs h2
              unfold isShallow at h1
              rw [ho] at h1
              exact h1
          rw [hop]
          have hd : dstOf ops j = o.dst := by simp [dstOf, ho]
          simp only []
          rw [if_pos (okE_local h.len (by rw [← hd]; exact h.box) hok)]
        · cases he
      · cases he
    · rw [aboutOk_local hs]
      exact he
    · cases he

/-- What a step leaves alone. -/
theorem step_keeps {i : Nat} {e : Eff} (he : dstep O E fn ops base i tmps H = some e) :
    (∀ t, (∀ v, tuE e (dstOf ops i) ≠ some (t, v)) → (dT ops i e tmps)[t]? = tmps[t]?) ∧
    (boxWr e = true → ∀ t v, tuE e (dstOf ops i) = some (t, v) → isLbox tmps t = true ∧ ∃ cs, v = .lbox cs) ∧
    (boxWr e = false → ∀ t v, tuE e (dstOf ops i) = some (t, v) → ∀ cs, v ≠ .lbox cs) ∧
    (dH base i e H).length = H.length ∧
    (∀ l, l ∉ wlE e (dstOf ops i) (base + i) → mOf (dT ops i e tmps) (dH base i e H) l = mOf tmps H l) := by
  have hok : ∃ d, okE e (base + i) d tmps H = true ∧ (d = dstOf ops i) := by
    unfold dstep at he
    cases ho : ops[i]? with
    | none => rw [ho] at he; cases he
    | some o =>
      rw [ho] at he
      simp only [] at he
      split at he
      · split at he
        · split at he
          · rename_i hok
            cases he
            exact ⟨o.dst, hok, by simp [dstOf, ho]⟩
          · cases he
        · cases he
      · split at he
        · cases he
          exact ⟨o.dst, rfl, by simp [dstOf, ho]⟩
        · cases he
      · cases he
  obtain ⟨d, hok, rfl⟩ := hok
  have k1 : ∀ t, (∀ v, tuE e (dstOf ops i) ≠ some (t, v)) → (dT ops i e tmps)[t]? = tmps[t]? := fun t ht => by
    unfold dT updT
    split
    · rename_i t' v hu
      rw [List.getElem?_set_ne]
      rintro rfl
      exact ht v hu
    · rfl
  have k2 : boxWr e = true → ∀ t v, tuE e (dstOf ops i) = some (t, v) → isLbox tmps t = true ∧ ∃ cs, v = .lbox cs := fun hb t v hu => by
    cases e <;> simp [boxWr] at hb
    rename_i v' rd l o
    cases l <;> simp at hb
    simp only [okE, Bool.and_eq_true] at hok
    cases o <;> simp [tuE] at hu
    obtain ⟨rfl, rfl⟩ := hu
    exact ⟨hok.2, _, rfl⟩
  have k3 : boxWr e = false → ∀ t v, tuE e (dstOf ops i) = some (t, v) → ∀ cs, v ≠ .lbox cs := fun hb t v hu cs hv => by
    subst hv
    cases e with
    | val v' rd =>
      simp only [tuE, Option.map_eq_some_iff] at hu
      obtain ⟨_, _, hu⟩ := hu
      cases hu
      simp [okE] at hok
    | wr v' rd l o =>
      cases l with
      | blk id =>
        simp only [tuE, Option.map_eq_some_iff] at hu
        obtain ⟨_, _, hu⟩ := hu
        cases hu
        simp [okE] at hok
      | box t' => simp [boxWr] at hb
    | nw v' rd o =>
      simp only [tuE, Option.map_eq_some_iff] at hu
      obtain ⟨_, _, hu⟩ := hu
      cases hu
      simp [okE] at hok
    | bx cs' => simp [tuE] at hu
  refine ⟨k1, k2, k3, ?_, fun l hl => ?_⟩
  · unfold dH updH
    split
    · simp
    · rfl
  · cases l with
    | blk id =>
      simp only [mOf, dH, updH]
      split
      · rename_i i' o hu
        simp only [List.getD_eq_getElem?_getD]
        rw [List.getElem?_set_ne]
        rintro rfl
        apply hl
        simp [wlE, hu]
      · rfl
    | box t =>
      simp only [mOf, boxOf]
      rw [k1 t fun v hu => hl (by simp [wlE, hu])]

theorem length_setAt' (cs ns : List AV) (i : Nat) : (setAt cs i ns).length = cs.length := length_setAt ns cs i

/-- A store leaves the blocks as long as they were. -/
theorem store_stamp {i : Nat} {e : Eff} (he : dstep O E fn ops base i tmps H = some e) (hs : isStore ops i = true) (l : Loc) : (mOf (dT ops i e tmps) (dH base i e H) l).stamp = (mOf tmps H l).stamp := by
  unfold isStore at hs
  cases ho : ops[i]? with
  | none => rw [ho] at hs; cases hs
  | some o =>
    rw [ho] at hs
    simp only [Bool.and_eq_true, Option.isNone_iff_eq_none] at hs
    obtain ⟨⟨hd, hst⟩, hg⟩ := hs
    have hdo : dstOf ops i = none := by simp [dstOf, ho, hd]
    unfold dstep at he
    rw [ho] at he
    have hw : wantedA ops tmps o = some true := by simp [wantedA, hg]
    simp only [hw] at he
    split at he
    · rename_i e' he'
      split at he
      · rename_i hok
        cases he
        have h1 : aop E.ti (E.loc fn) tmps (mOf tmps H) (base + i) o = some e := by
          unfold opEff at he'
          cases hop : o.op <;> rw [hop] at hst he' <;> first | (cases hst; done) | exact he'
        unfold aop at h1
        cases hop : o.op <;> rw [hop] at hst h1 <;> first | (cases hst; done) | skip
        rename_i t ad x
        simp only [Option.bind_eq_bind, Option.bind_eq_some_iff] at h1
        obtain ⟨a, ha, b, hb, h1⟩ := h1
        unfold aStore at h1
        simp only [Option.bind_eq_bind, Option.bind_eq_some_iff] at h1
        obtain ⟨n, hn, h1⟩ := h1
        split at h1
        · split at h1
          · rename_i id off st
            split at h1
            · rename_i cs hm
              split at h1
              · cases h1
                simp only [okE, Bool.and_eq_true, decide_eq_true_eq] at hok
                have hH : H.getD id .dead = .cells cs := hm
                simp only [dT, hdo, tuE, Option.map_none, updT, dH, huE, updH]
                cases l with
                | box t => rfl
                | blk id' =>
                  simp only [mOf]
                  rw [getD_set_blk _ _ _ hok.1]
                  split
                  · rename_i hid
                    subst hid
                    rw [hH]
                    simp [AObj.stamp, length_setAt]
                  · rfl
              · cases h1
            · cases h1
          · rename_i s off
            split at h1
            · rename_i cs hm
              split at h1
              · cases h1
                simp only [okE, Bool.and_eq_true] at hok
                have hB : boxOf tmps s = .cells cs := hm
                have hlt : ∃ cs', tmps[s]? = some (.lbox cs') := by
                  have := hok.2
                  unfold isLbox at this
                  split at this
                  · rename_i x hx; exact ⟨_, hx⟩
                  · cases this
                obtain ⟨cs', hcs'⟩ := hlt
                have hcs : cs' = cs := by
                  unfold boxOf at hB
                  rw [hcs'] at hB
                  simpa using hB
                subst hcs
                have hsl := (List.getElem?_eq_some_iff.1 hcs').1
                simp only [dT, hdo, tuE, updT, dH, huE, updH]
                cases l with
                | blk id => rfl
                | box t' =>
                  simp only [mOf]
                  rw [boxOf_set_box _ _ _ hsl]
                  split
                  · rename_i hid
                    subst hid
                    rw [hB]
                    simp [AObj.stamp, length_setAt]
                  · rfl
              · cases h1
            · cases h1
          · cases h1
        · cases h1
      · cases he
    · cases he

theorem alike_of {i j : Nat} {ei ej : Eff} (hi : dstep O E fn ops base i tmps H = some ei) (hh : half ops base i ei j ej = true)
    (hb : ∀ t v t' v', tuE ei (dstOf ops i) = some (t, v) → tuE ej (dstOf ops j) = some (t', v') → t ≠ t') :
    Alike ops j ej tmps H (dT ops i ei tmps) (dH base i ei H) := by
  obtain ⟨k1, k2, k3, k4, k5⟩ := step_keeps hi
  simp only [half, Bool.and_eq_true, Bool.or_eq_true] at hh
  refine ⟨fun t ht => ?_, ?_, k4, fun t v hu _ => ?_⟩
  · by_cases hs : ∃ v, tuE ei (dstOf ops i) = some (t, v)
    · obtain ⟨v, hs⟩ := hs
      rcases hh.1 with hbw | hno
      · obtain ⟨q1, cs, rfl⟩ := k2 hbw t v hs
        have hlt : t < tmps.length := by
          unfold isLbox at q1
          split at q1
          · rename_i hx; exact (List.getElem?_eq_some_iff.1 hx).1
          · cases q1
        have e1 : (dT ops i ei tmps)[t]? = some (.lbox cs) := by simp [dT, updT, hs, hlt]
        obtain ⟨cs', e2⟩ : ∃ cs', tmps[t]? = some (.lbox cs') := by
          unfold isLbox at q1
          split at q1
          · rename_i x hx; exact ⟨_, hx⟩
          · cases q1
        simp [evT, evA, e1, e2]
      · rw [hs] at hno
        simp only [Bool.not_eq_true', List.contains_eq_mem, decide_eq_false_iff_not] at hno
        exact absurd ht hno
    · have e1 := k1 t fun v hv => hs ⟨v, hv⟩
      simp only [evT, evA, e1]
      exact ⟨trivial, trivial⟩
  · rcases hh.2 with hh2 | hh2
    · refine .inl fun l hl => k5 l fun hw => ?_
      have := List.all_eq_true.1 hh2 l hw
      simp only [Bool.not_eq_true', List.contains_eq_mem, decide_eq_false_iff_not] at this
      exact this hl
    · exact .inr ⟨hh2.2, fun l _ => store_stamp hi hh2.1 l⟩
  · unfold isLbox
    rw [k1 t fun v' hv' => hb t v' t v hv' hu rfl]

theorem Alike.symm {j : Nat} {e : Eff} (h : Alike ops j e tmps H tmps' H') : Alike ops j e tmps' H' tmps H :=
  ⟨fun t ht => ⟨(h.t t ht).1.symm, (h.t t ht).2.symm⟩, h.m.imp (fun hm l hl => (hm l hl).symm) fun hm => ⟨hm.1, fun l hl => (hm.2 l hl).symm⟩, h.len.symm, fun t v h1 h2 => (h.box t v h1 h2).symm⟩

theorem updT_comm {u u' : Option (Nat × AV)} (h : ∀ t v t' v', u = some (t, v) → u' = some (t', v') → t ≠ t') (l : List AV) : updT u (updT u' l) = updT u' (updT u l) := by
  unfold updT
  cases u with
  | none => rfl
  | some p =>
    cases u' with
    | none => rfl
    | some q => exact (List.set_comm _ _ (h p.1 p.2 q.1 q.2 rfl rfl)).symm
theorem updH_comm {u u' : Option (Nat × AObj)} (h : ∀ t v t' v', u = some (t, v) → u' = some (t', v') → t ≠ t') (l : List AObj) : updH u (updH u' l) = updH u' (updH u l) := by
  unfold updH
  cases u with
  | none => rfl
  | some p =>
    cases u' with
    | none => rfl
    | some q => exact (List.set_comm _ _ (h p.1 p.2 q.1 q.2 rfl rfl)).symm

theorem ne_of_match {α : Type} {x y : Option (Nat × α)} (h : slotNe x y = true) : ∀ t v t' v', x = some (t, v) → y = some (t', v') → t ≠ t' := by
  rintro t v t' v' rfl rfl
  simpa [slotNe] using h

theorem swap {i j : Nat} {ei ej : Eff} (hi : dstep O E fn ops base i tmps H = some ei) (hj : dstep O E fn ops base j (dT ops i ei tmps) (dH base i ei H) = some ej) (hd : indep ops base i ei j ej = true) :
    dstep O E fn ops base j tmps H = some ej ∧ dstep O E fn ops base i (dT ops j ej tmps) (dH base j ej H) = some ei ∧
    dT ops i ei (dT ops j ej tmps) = dT ops j ej (dT ops i ei tmps) ∧ dH base i ei (dH base j ej H) = dH base j ej (dH base i ei H) := by
  simp only [indep, Bool.and_eq_true] at hd
  obtain ⟨⟨⟨h1, h2⟩, h3⟩, h4⟩ := hd
  have n1 := ne_of_match h3
  have n2 := ne_of_match h4
  have hj0 := dstep_local hj (alike_of hi h1 n1).symm
  refine ⟨hj0, dstep_local hi (alike_of hj0 h2 fun t v t' v' e1 e2 => (n1 t' v' t v e2 e1).symm), updT_comm n1 _, updH_comm n2 _⟩

theorem drun_front : ∀ (pre : List Nat) {i : Nat} {post : List Nat} {tmps : List AV} {H : List AObj} {es : List (Nat × Eff)} {X : List AV × List AObj}, drun O E fn ops base (pre ++ i :: post) tmps H = some (es, X) →
    ∃ es1 ei es2, es = es1 ++ (i, ei) :: es2 ∧ es1.map (·.1) = pre ∧ es2.map (·.1) = post ∧
      ((∀ p ∈ es1, indep ops base p.1 p.2 i ei = true) → dstep O E fn ops base i tmps H = some ei ∧ drun O E fn ops base (pre ++ post) (dT ops i ei tmps) (dH base i ei H) = some (es1 ++ es2, X))
  | [], i, post, tmps, H, es, X, h => by
    simp only [List.nil_append, drun] at h
    split at h
    · rename_i e he
      split at h
      · rename_i es2 X2 h2
        cases h
        have hm : ∀ (l : List Nat) {tmps : List AV} {H : List AObj} {es : List (Nat × Eff)} {X : List AV × List AObj}, drun O E fn ops base l tmps H = some (es, X) → es.map (·.1) = l := by
          intro l
          induction l with
          | nil => intro tmps H es X h; cases h; rfl
          | cons j l ih =>
            intro tmps H es X h
            simp only [drun] at h
            split at h
            · split at h
              · rename_i h3
                cases h
                simp [ih h3]
              · cases h
            · cases h
        exact ⟨[], e, es2, rfl, rfl, hm _ h2, fun _ => ⟨he, h2⟩⟩
      · cases h
    · cases h
  | j :: pre, i, post, tmps, H, es, X, h => by
    simp only [List.cons_append, drun] at h
    split at h
    · rename_i ej hj
      split at h
      · rename_i es0 X2 h2
        cases h
        obtain ⟨es1, ei, es2, rfl, m1, m2, hk⟩ := drun_front pre h2
        refine ⟨(j, ej) :: es1, ei, es2, rfl, by simp [m1], m2, fun hd => ?_⟩
        obtain ⟨q1, q2⟩ := hk fun p hp => hd p (by simp [hp])
        obtain ⟨s1, s2, s3, s4⟩ := swap hj q1 (hd (j, ej) (by simp))
        refine ⟨s1, ?_⟩
        simp only [List.cons_append, drun, s2, s3, s4]
        rw [q2]
      · cases h
    · cases h
end
end Go.Proofs.Ytmmabdpmeijgmaa.AM
