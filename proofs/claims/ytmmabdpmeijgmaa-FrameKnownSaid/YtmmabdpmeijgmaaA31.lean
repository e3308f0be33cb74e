/- Drawn regions that only read. -/
import Derived.Test.YtmmabdpmeijgmaaA30
namespace Go.Proofs.Ytmmabdpmeijgmaa.AM
open Go

/-- Do two operations name a slot that one of them writes? -/
def meetsT (ops : Array Oper) (i j : Nat) : Bool :=
  match dstOf ops i with
  | some t => (usesT ops j).contains t || dstOf ops j == some t
  | none => false

def quietOps (ops : Array Oper) : Bool :=
  let deps := depsL ops
  edgesOk ops && (List.range ops.size).all fun j => (List.range j).all fun i => ((deps.getD j []).contains i) || (!meetsT ops i j && !meetsT ops j i)

def quietAll : Code → Bool
  | .seq a b => quietAll a && quietAll b
  | .cond _ a b => quietAll a && quietAll b
  | .block _ b => quietAll b
  | .loop b => quietAll b
  | .rangeFunc _ _ a b => quietAll a && quietAll b
  | .scope b => quietAll b
  | .region _ ops true => quietOps ops
  | _ => true

def QuietC : Code → Prop
  | .seq a b => QuietC a ∧ QuietC b
  | .cond _ a b => QuietC a ∧ QuietC b
  | .block _ b => QuietC b
  | .loop b => QuietC b
  | .rangeFunc _ _ a b => QuietC a ∧ QuietC b
  | .scope b => QuietC b
  | .region _ ops true => quietOps ops = true
  | _ => True

theorem quiet_of : ∀ (c : Code), quietAll c = true → QuietC c
  | .seq a b, h => by simp only [quietAll, Bool.and_eq_true] at h; exact ⟨quiet_of a h.1, quiet_of b h.2⟩
  | .cond _ a b, h => by simp only [quietAll, Bool.and_eq_true] at h; exact ⟨quiet_of a h.1, quiet_of b h.2⟩
  | .block _ b, h => quiet_of b h
  | .loop b, h => quiet_of b h
  | .rangeFunc _ _ a b, h => by simp only [quietAll, Bool.and_eq_true] at h; exact ⟨quiet_of a h.1, quiet_of b h.2⟩
  | .scope b, h => quiet_of b h
  | .region _ ops true, h => h
  | .region _ ops false, _ => trivial
  | .skip, _ => trivial
  | .exit _, _ => trivial
  | .label _, _ => trivial
  | .goto _, _ => trivial
  | .ret, _ => trivial
  | .refuse _, _ => trivial

/-- The frame's own variables that are read stand in slots that nothing of the region writes. -/
def notBox (ops : Array Oper) (rd : List Loc) : Bool := rd.all fun l => match l with
  | .blk _ => true
  | .box t => (List.range ops.size).all fun i => !(dstOf ops i == some t)

def slotOk (v : AV) : Bool := match v with
  | .lbox _ => false
  | _ => true

def qrunL (O : Oracle) (E : Env) (fn : FuncId) (ops : Array Oper) (base : Nat) (H : List AObj) : Nat → List Oper → List AV → Option (List AV)
  | _, [], tmps => some tmps
  | i, o :: rest, tmps => match wantedA ops tmps o with
    | some true => match opEff O E fn (base + i) o tmps H with
      | some (.val v rd) => if slotOk v && notBox ops rd then qrunL O E fn ops base H (i + 1) rest (setD tmps o.dst v) else none
      | _ => none
    | some false => if aboutOk E tmps o then qrunL O E fn ops base H (i + 1) rest (setD tmps o.dst undefAV) else none
    | none => none

def drawQ (O : Oracle) (E : Env) (fn : FuncId) (ops : Array Oper) (s : FS) : Option FS :=
  if quietOps ops then (qrunL O E fn ops s.H.length s.H 0 ops.toList s.tmps).map fun t => ⟨t, s.H, s.D⟩ else none

section
variable {O : Oracle} {E : Env} {fn : FuncId} {rd : Bool} {ops : Array Oper} {s s' : FS} {base : Nat}

theorem mOf_pad (tmps : List AV) (H : List AObj) (n : Nat) : mOf tmps (H ++ List.replicate n .dead) = mOf tmps H := by
  funext l
  cases l with
  | box t => rfl
  | blk i =>
    simp only [mOf, List.getD_eq_getElem?_getD, List.getElem?_append]
    split
    · rfl
    · rename_i hlt
      rw [List.getElem?_replicate, List.getElem?_eq_none (Nat.le_of_not_lt hlt)]
      split <;> rfl

theorem opEff_pad (k : Nat) (o : Oper) (tmps : List AV) (H : List AObj) (n : Nat) : opEff O E fn k o tmps (H ++ List.replicate n .dead) = opEff O E fn k o tmps H := by
  unfold opEff
  simp only [mOf_pad]

def isVal (ops : Array Oper) : Eff → Bool
  | .val _ rd => notBox ops rd
  | _ => false

theorem q_drun (n : Nat) {H : List AObj} : ∀ (l : List Oper) (i : Nat) {tmps t : List AV}, (∀ (j : Nat) o, l[j]? = some o → ops[i + j]? = some o) → qrunL O E fn ops base H i l tmps = some t →
    ∃ es, drun O E fn ops base (List.range' i l.length) tmps (H ++ List.replicate n .dead) = some (es, t, H ++ List.replicate n .dead) ∧ es.map (·.1) = List.range' i l.length ∧ ∀ p ∈ es, isVal ops p.2 = true
  | [], i, tmps, t, _, h => by
    cases h
    exact ⟨[], rfl, rfl, fun p hp => by cases hp⟩
  | o :: l, i, tmps, t, ho, h => by
    have h0 : ops[i]? = some o := ho 0 o rfl
    have hd : dstOf ops i = o.dst := by simp [dstOf, h0]
    have hrest : ∀ (j : Nat) o', l[j]? = some o' → ops[i + 1 + j]? = some o' := fun j o' hj => by
      have := ho (j + 1) o' (by simpa using hj)
      rw [← this]; congr 1; omega
    have step : ∀ (v : AV) (rds : List Loc), dstep O E fn ops base i tmps (H ++ List.replicate n .dead) = some (.val v rds) → notBox ops rds = true → qrunL O E fn ops base H (i + 1) l (setD tmps o.dst v) = some t →
        ∃ es, drun O E fn ops base (List.range' i (o :: l).length) tmps (H ++ List.replicate n .dead) = some (es, t, H ++ List.replicate n .dead) ∧ es.map (·.1) = List.range' i (o :: l).length ∧ ∀ p ∈ es, isVal ops p.2 = true := by
      intro v rds hs hn hq
      obtain ⟨es, k1, k2, k3⟩ := q_drun n l (i + 1) hrest hq
      have e1 : dT ops i (.val v rds) tmps = setD tmps o.dst v := by
        simp only [dT, hd, tuE]
        cases o.dst <;> rfl
      refine ⟨(i, .val v rds) :: es, ?_, by simp [List.range'_succ, k2], fun p hp => ?_⟩
      · simp only [List.length_cons, List.range'_succ, drun, hs, e1]
        have e2 : dH base i (.val v rds) (H ++ List.replicate n .dead) = H ++ List.replicate n .dead := rfl
        rw [e2, k1]
      · rcases List.mem_cons.1 hp with rfl | hp
        · exact hn
        · exact k3 p hp
    unfold qrunL at h
    split at h
    · rename_i hw
      split at h
      · rename_i v rds he
        split at h
        · rename_i hc
          simp only [Bool.and_eq_true] at hc
          refine step v rds ?_ hc.2 h
          unfold dstep
          simp only [h0, hw, opEff_pad, he]
          rw [if_pos]
          exact hc.1
        · cases h
      · cases h
    · rename_i hw
      split at h
      · rename_i hab
        refine step undefAV [] ?_ rfl h
        unfold dstep
        simp only [h0, hw]
        rw [if_pos hab]
      · cases h
    · cases h

theorem wl_val (v : AV) (rds : List Loc) (d : Option Nat) (k : Nat) : wlE (.val v rds) d k = (d.map Loc.box).toList := by
  cases d <;> rfl

theorem half_val {i j : Nat} {ei ej : Eff} (hi : isVal ops ei = true) (hj : isVal ops ej = true) (hm : meetsT ops i j = false) : half ops base i ei j ej = true := by
  cases ei <;> simp only [isVal] at hi <;> try (cases hi; done)
  rename_i v rds
  cases ej <;> simp only [isVal] at hj <;> try (cases hj; done)
  rename_i v' rds'
  unfold meetsT at hm
  unfold half
  rw [wl_val]
  cases hd : dstOf ops i with
  | none => simp [boxWr, tuE]
  | some t =>
    rw [hd] at hm
    simp only [Bool.or_eq_false_iff] at hm
    have hnb : rds'.contains (Loc.box t) = false := by
      rw [Bool.eq_false_iff]
      intro hc
      have h9 := List.all_eq_true.1 hj (Loc.box t) (by simpa using hc)
      have hi9 : i < ops.size := by
        unfold dstOf at hd
        cases ho : ops[i]? with
        | none => rw [ho] at hd; cases hd
        | some o => exact (Array.getElem?_eq_some_iff.1 ho).1
      have h10 := List.all_eq_true.1 h9 i (by simpa using hi9)
      rw [hd] at h10
      simp at h10
    have h1 := hm.1
    simp only [boxWr, tuE, Option.map_some, Option.toList_some, List.all_cons, List.all_nil, Bool.and_true, Bool.false_or, Eff.rds, Bool.and_eq_true, Bool.not_eq_true', h1, hnb]
    exact ⟨trivial, by simp⟩

theorem indep_val {i j : Nat} {ei ej : Eff} (hi : isVal ops ei = true) (hj : isVal ops ej = true) (h1 : meetsT ops i j = false) (h2 : meetsT ops j i = false) : indep ops base i ei j ej = true := by
  unfold indep
  rw [half_val hi hj h1, half_val hj hi h2]
  cases ei <;> simp only [isVal] at hi <;> try (cases hi; done)
  rename_i v rds
  cases ej <;> simp only [isVal] at hj <;> try (cases hj; done)
  rename_i v' rds'
  unfold meetsT at h1
  cases hd : dstOf ops i with
  | none => simp [tuE, huE, slotNe]
  | some t =>
    rw [hd] at h1
    simp only [Bool.or_eq_false_iff] at h1
    cases hd' : dstOf ops j with
    | none => simp [tuE, huE, slotNe]
    | some t' =>
      have h3 := h1.2
      rw [hd'] at h3
      have hne : t' ≠ t := by rintro rfl; simp at h3
      simp [tuE, huE, slotNe, Ne.symm hne]

theorem chk_val {deps : List (List Nat)} (hdeps : deps = depsL ops) (hq : quietOps ops = true) : ∀ (es : List (Nat × Eff)), (∀ p ∈ es, isVal ops p.2 = true) → (es.map (·.1)).Pairwise (· < ·) → (∀ p ∈ es, p.1 < ops.size) → chkAll ops base deps es = true
  | [], _, _, _ => rfl
  | q :: r, hv, hp, hs => by
    simp only [chkAll, Bool.and_eq_true]
    simp only [List.map_cons, List.pairwise_cons] at hp
    refine ⟨List.all_eq_true.2 fun p hpr => ?_, chk_val hdeps hq r (fun p h => hv p (by simp [h])) hp.2 fun p h => hs p (by simp [h])⟩
    have hlt := hp.1 p.1 (List.mem_map.2 ⟨p, hpr, rfl⟩)
    unfold quietOps at hq
    simp only [Bool.and_eq_true] at hq
    have h1 := List.all_eq_true.1 hq.2 p.1 (by simpa using hs p (by simp [hpr]))
    have h2 := List.all_eq_true.1 h1 q.1 (by simpa using hlt)
    rw [← hdeps] at h2
    rw [Bool.or_eq_true] at h2 ⊢
    rcases h2 with h2 | h2
    · exact .inl h2
    · simp only [Bool.and_eq_true, Bool.not_eq_true'] at h2
      exact .inr (indep_val (hv q (by simp)) (hv p (by simp [hpr])) h2.1 h2.2)

theorem lastNw_val : ∀ (es : List (Nat × Eff)), (∀ p ∈ es, isVal ops p.2 = true) → lastNw es = 0
  | [], _ => rfl
  | (i, e) :: r, h => by
    have h0 := h (i, e) (by simp)
    have := lastNw_val r fun p hp => h p (by simp [hp])
    cases e <;> simp only [isVal] at h0 <;> try (cases h0; done)
    simp [lastNw, isNw, this]

theorem draw_of_q (h : drawQ O E fn ops s = some s') : drawRun O E fn ops s = some s' := by
  unfold drawQ at h
  split at h
  · rename_i hq
    simp only [Option.map_eq_some_iff] at h
    obtain ⟨t, ht, rfl⟩ := h
    obtain ⟨es, k1, k2, k3⟩ := q_drun ops.size ops.toList 0 (fun j o hj => by simpa using hj) ht
    have hr : List.range' 0 ops.toList.length = List.range ops.size := by simp [List.range_eq_range']
    rw [hr] at k1 k2
    have hl := lastNw_val es k3
    have hedge : edgesOk ops = true := by
      unfold quietOps at hq
      simp only [Bool.and_eq_true] at hq
      exact hq.1
    have hchk : chkAll ops s.H.length (depsL ops) es = true := chk_val rfl hq es k3 (by rw [k2]; exact List.pairwise_lt_range) fun p hp => by
      have : p.1 ∈ es.map (·.1) := List.mem_map.2 ⟨p, hp, rfl⟩
      rw [k2] at this
      simpa using this
    unfold drawRun
    rw [k1]
    simp only [hchk, hedge, hl, Nat.add_zero, List.drop_left, List.take_left, Bool.and_self, Bool.true_and, List.length_append]
    rw [if_pos]
    simp [isDead]
  · cases h

def drawRun' (O : Oracle) (E : Env) (fn : FuncId) (ops : Array Oper) (s : FS) : Option FS := drawRun O E fn ops s
def orE (x y : Option FS) : Option FS :=
  match x with
  | some a => some a
  | none => y
theorem orE_some (a : FS) (y : Option FS) : orE (some a) y = some a := rfl
theorem X_drawQ (ht : tailOk ops = false) (id : Nat) (s : FS) : execC O E fn rd (.region id ops true) s = (orE (drawQ O E fn ops s) (drawRun' O E fn ops s)).map fun s' => (.normal, s') := by
  show drawX O E fn rd ops s = _
  unfold drawX
  rw [if_neg (by rw [ht]; simp)]
  cases h : drawQ O E fn ops s with
  | none => rfl
  | some a => rw [draw_of_q h]; rfl
end
end Go.Proofs.Ytmmabdpmeijgmaa.AM
