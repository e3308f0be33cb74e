/- What stands before an operation, as bits of a number: quick to look at. -/
import Derived.Test.YtmmabdpmeijgmaaA21
namespace Go.Proofs.Ytmmabdpmeijgmaa.AM
open Go

def tb (m j : Nat) : Bool :=
  match Nat.land 1 (Nat.shiftRight m j) with
  | 0 => false
  | _ + 1 => true

theorem tb_eq (m j : Nat) : tb m j = m.testBit j := by
  unfold tb Nat.testBit
  show _ = (1 &&& (m >>> j) != 0)
  change (match 1 &&& (m >>> j) with | 0 => false | _ + 1 => true) = _
  cases h : 1 &&& (m >>> j) with
  | zero => rfl
  | succ k => simp

/-- 'acc': the ones before, the last one first; 'i': how many. -/
def maskOf (acc : List Nat) (i : Nat) (ps : List Nat) : Nat := ps.foldr (fun p m => Nat.lor m (Nat.lor (Nat.pow 2 p) (acc.getD (i - 1 - p) 0))) 0

def maskGo : List Oper → List Nat → Nat → List Nat
  | [], acc, _ => acc
  | o :: r, acc, i => maskGo r (maskOf acc i (predsOf o) :: acc) (i + 1)

def masks (ops : Array Oper) : List Nat := maskGo ops.toList [] 0

theorem maskOf_bit (acc : List Nat) (i : Nat) (ps : List Nat) (j : Nat) : (maskOf acc i ps).testBit j = ps.any fun p => decide (p = j) || (acc.getD (i - 1 - p) 0).testBit j := by
  induction ps with
  | nil => simp [maskOf]
  | cons p ps ih =>
    have : maskOf acc i (p :: ps) = maskOf acc i ps ||| (2 ^ p ||| acc.getD (i - 1 - p) 0) := rfl
    rw [this, Nat.testBit_or, Nat.testBit_or, ih, Nat.testBit_two_pow, List.any_cons, Bool.or_comm]

def MaskRel (acc : List Nat) (accL : List (List Nat)) (i : Nat) : Prop :=
  acc.length = i ∧ accL.length = i ∧ ∀ p, p < i → ∀ j, (acc.getD (i - 1 - p) 0).testBit j = (accL.getD p []).contains j

theorem maskGo_rel : ∀ (l : List Oper) (acc : List Nat) (accL : List (List Nat)) (i : Nat), (∀ (k : Nat) o, l[k]? = some o → ∀ p ∈ predsOf o, p < i + k) → MaskRel acc accL i → MaskRel (maskGo l acc i) (depsGo l accL) (i + l.length)
  | [], acc, accL, i, _, h => h
  | o :: l, acc, accL, i, hp, h => by
    rw [List.length_cons, show i + (l.length + 1) = (i + 1) + l.length from by omega]
    refine maskGo_rel l _ _ (i + 1) (fun k o' hk p hpm => ?_) ⟨?_, ?_, fun p hpi j => ?_⟩
    · have := hp (k + 1) o' (by simpa using hk) p hpm
      omega
    · simp [h.1]
    · simp [h.2.1]
    · rcases Nat.lt_or_ge p i with hlt | hge
      · rw [show i + 1 - 1 - p = (i - 1 - p) + 1 from by omega, List.getD_cons_succ, h.2.2 p hlt j]
        congr 1
        simp only [List.getD_eq_getElem?_getD]
        rw [List.getElem?_append_left (by rw [h.2.1]; exact hlt)]
      · have hpe : p = i := by omega
        subst hpe
        rw [show p + 1 - 1 - p = 0 from by omega, List.getD_cons_zero, maskOf_bit]
        have e1 : (accL ++ [(predsOf o).flatMap fun q => q :: accL.getD q []]).getD p [] = (predsOf o).flatMap fun q => q :: accL.getD q [] := by
          simp only [List.getD_eq_getElem?_getD]
          rw [List.getElem?_append_right (by rw [h.2.1]; exact Nat.le_refl _), h.2.1, Nat.sub_self]
          rfl
        rw [e1]
        have hpl : ∀ q ∈ predsOf o, q < p := fun q hq => by have := hp 0 o rfl q hq; omega
        rw [Bool.eq_iff_iff, List.any_eq_true, List.contains_iff_mem, List.mem_flatMap]
        constructor
        · rintro ⟨q, hq, hh⟩
          refine ⟨q, hq, ?_⟩
          rw [Bool.or_eq_true, decide_eq_true_eq] at hh
          rcases hh with rfl | hh
          · exact List.mem_cons_self ..
          · rw [h.2.2 q (hpl q hq) j, List.contains_iff_mem] at hh
            exact List.mem_cons_of_mem _ hh
        · rintro ⟨q, hq, hh⟩
          refine ⟨q, hq, ?_⟩
          rw [Bool.or_eq_true, decide_eq_true_eq]
          rcases List.mem_cons.1 hh with rfl | hh
          · exact .inl rfl
          · right
            rw [h.2.2 q (hpl q hq) j, List.contains_iff_mem]
            exact hh

theorem masks_rel {ops : Array Oper} (he : edgesOk ops = true) : MaskRel (masks ops) (depsL ops) ops.size := by
  have := maskGo_rel ops.toList [] [] 0 (fun k o hk p hp => ?_) ⟨rfl, rfl, fun p hp => by omega⟩
  · simpa [masks, depsL] using this
  · have hk' : ops[k]? = some o := by simpa using hk
    have hlt := (Array.getElem?_eq_some_iff.1 hk').1
    have := List.all_eq_true.1 he k (by simpa using hlt)
    simp only [hk'] at this
    have := of_decide_eq_true (List.all_eq_true.1 this p hp)
    omega

noncomputable def chkZ (ops : Array Oper) (base : Nat) (l : List ((Nat × Eff) × Nat)) : Bool :=
  @List.rec ((Nat × Eff) × Nat) (fun _ => Bool) true (fun q r ih => match r.all (fun p => match tb p.2 q.1.1 with
    | true => true
    | false => indep ops base q.1.1 q.1.2 p.1.1 p.1.2) with
    | true => ih
    | false => false) l

/-- The check of a drawn part. -/
noncomputable def chkM (ops : Array Oper) (base : Nat) (es : List (Nat × Eff)) : Bool :=
  match edgesOk ops with
  | true => chkZ ops base (es.map fun p => (p, (masks ops).getD (ops.size - 1 - p.1) 0))
  | false => false

theorem all_mem {α : Type} {p q : α → Bool} : ∀ {l : List α}, (∀ x ∈ l, p x = q x) → l.all p = l.all q
  | [], _ => rfl
  | x :: l, h => by rw [List.all_cons, List.all_cons, h x (List.mem_cons_self ..), all_mem fun y hy => h y (List.mem_cons_of_mem _ hy)]

theorem chkZ_eq {ops : Array Oper} {base : Nat} (f : Nat → Nat) (d : List (List Nat)) : ∀ (es : List (Nat × Eff)), (∀ p ∈ es, ∀ j, tb (f p.1) j = (d.getD p.1 []).contains j) → chkZ ops base (es.map fun p => (p, f p.1)) = chkAll ops base d es
  | [], _ => rfl
  | q :: r, h => by
    have ih := chkZ_eq (ops := ops) (base := base) f d r fun p hp => h p (List.mem_cons_of_mem _ hp)
    show (match (r.map fun p => (p, f p.1)).all _ with | true => chkZ ops base (r.map fun p => (p, f p.1)) | false => false) = _
    rw [ih]
    have e1 : (r.map fun p => (p, f p.1)).all (fun p => match tb p.2 q.1 with | true => true | false => indep ops base q.1 q.2 p.1.1 p.1.2) = r.all fun p => (d.getD p.1 []).contains q.1 || indep ops base q.1 q.2 p.1 p.2 := by
      rw [List.all_map]
      refine all_mem fun p hp => ?_
      show (match tb (f p.1) q.1 with | true => true | false => indep ops base q.1 q.2 p.1 p.2) = _
      rw [h p (List.mem_cons_of_mem _ hp) q.1]
      cases (d.getD p.1 []).contains q.1 <;> rfl
    simp only [chkAll]
    rw [e1]
    cases (r.all fun p => (d.getD p.1 []).contains q.1 || indep ops base q.1 q.2 p.1 p.2) <;> rfl

theorem chkM_eq {ops : Array Oper} {base : Nat} {es : List (Nat × Eff)} (hes : ∀ p ∈ es, p.1 < ops.size) : chkM ops base es = (chkAll ops base (depsL ops) es && edgesOk ops) := by
  unfold chkM
  cases he : edgesOk ops with
  | false => simp
  | true =>
    have hm := masks_rel he
    simp only [Bool.and_true]
    exact chkZ_eq (fun i => (masks ops).getD (ops.size - 1 - i) 0) (depsL ops) es fun p hp j => by
      rw [tb_eq]
      exact hm.2.2 p.1 (hes p hp) j
end Go.Proofs.Ytmmabdpmeijgmaa.AM
