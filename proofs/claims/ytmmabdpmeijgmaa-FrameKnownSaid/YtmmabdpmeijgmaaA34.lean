/- The machine again, as the kernel likes to run it: slots and blocks lie in trees; beside them, never looked at, the lists. -/
import Derived.Test.YtmmabdpmeijgmaaA25
namespace Go.Proofs.Ytmmabdpmeijgmaa.AM
open Go

inductive Tr (α : Type) where
  | nil
  | node (v : α) (l r : Tr α)
  | over (n : Nat) (v : α) (t : Tr α)

section
variable {α : Type}
noncomputable def Tr.get (d : α) (t : Tr α) : Nat → α :=
  @Tr.rec α (fun _ => Nat → α) (fun _ => d)
    (fun v _ _ l r n => @Nat.rec (fun _ => α) v (fun k _ => @Bool.rec (fun _ => α) (r (Nat.div k 2)) (l (Nat.div k 2)) (Nat.beq (Nat.mod k 2) 0)) n)
    (fun m v _ t n => @Bool.rec (fun _ => α) (t n) v (Nat.beq n m)) t

noncomputable def Tr.set (d : α) (v : α) (f : Nat) : Tr α → Nat → Tr α :=
  @Nat.rec (fun _ => Tr α → Nat → Tr α) (fun t n => .over n v t)
    (fun _ ih t n => @Tr.casesOn α (fun _ => Tr α) t
      (@Nat.rec (fun _ => Tr α) (.node v .nil .nil) (fun k _ => @Bool.rec (fun _ => Tr α) (.node d .nil (ih .nil (Nat.div k 2))) (.node d (ih .nil (Nat.div k 2)) .nil) (Nat.beq (Nat.mod k 2) 0)) n)
      (fun a l r => @Nat.rec (fun _ => Tr α) (.node v l r) (fun k _ => @Bool.rec (fun _ => Tr α) (.node a l (ih r (Nat.div k 2))) (.node a (ih l (Nat.div k 2)) r) (Nat.beq (Nat.mod k 2) 0)) n)
      (fun m b t' => .over n v (.over m b t'))) f

theorem Tr.get_nil (d : α) (n : Nat) : (Tr.nil : Tr α).get d n = d := rfl
theorem Tr.get_zero (d v : α) (l r : Tr α) : (Tr.node v l r).get d 0 = v := rfl
theorem Tr.get_succ (d v : α) (l r : Tr α) (k : Nat) : (Tr.node v l r).get d (k + 1) = if k % 2 = 0 then l.get d (k / 2) else r.get d (k / 2) := by
  show @Bool.rec (fun _ => α) (r.get d (k / 2)) (l.get d (k / 2)) (Nat.beq (k % 2) 0) = _
  by_cases h : k % 2 = 0
  · rw [if_pos h, h]; rfl
  · rw [if_neg h]
    have : Nat.beq (k % 2) 0 = false := by
      cases hb : Nat.beq (k % 2) 0 with
      | false => rfl
      | true => exact absurd (Nat.eq_of_beq_eq_true hb) h
    rw [this]
theorem Tr.get_over (d v : α) (m n : Nat) (t : Tr α) : (Tr.over m v t).get d n = if n = m then v else t.get d n := by
  show @Bool.rec (fun _ => α) (t.get d n) v (Nat.beq n m) = _
  by_cases h : n = m
  · rw [if_pos h, h]
    have : Nat.beq m m = true := Nat.beq_refl m
    rw [this]
  · rw [if_neg h]
    have : Nat.beq n m = false := by
      cases hb : Nat.beq n m with
      | false => rfl
      | true => exact absurd (Nat.eq_of_beq_eq_true hb) h
    rw [this]

theorem Tr.set_nil (d v : α) (f k : Nat) : Tr.set d v (f + 1) .nil (k + 1) = if k % 2 = 0 then .node d (Tr.set d v f .nil (k / 2)) .nil else .node d .nil (Tr.set d v f .nil (k / 2)) := by
  show @Bool.rec (fun _ => Tr α) (.node d .nil (Tr.set d v f .nil (k / 2))) (.node d (Tr.set d v f .nil (k / 2)) .nil) (Nat.beq (k % 2) 0) = _
  by_cases h : k % 2 = 0
  · rw [if_pos h, h]; rfl
  · rw [if_neg h]
    have : Nat.beq (k % 2) 0 = false := by
      cases hb : Nat.beq (k % 2) 0 with
      | false => rfl
      | true => exact absurd (Nat.eq_of_beq_eq_true hb) h
    rw [this]
theorem Tr.set_node (d v a : α) (l r : Tr α) (f k : Nat) : Tr.set d v (f + 1) (.node a l r) (k + 1) = if k % 2 = 0 then .node a (Tr.set d v f l (k / 2)) r else .node a l (Tr.set d v f r (k / 2)) := by
  show @Bool.rec (fun _ => Tr α) (.node a l (Tr.set d v f r (k / 2))) (.node a (Tr.set d v f l (k / 2)) r) (Nat.beq (k % 2) 0) = _
  by_cases h : k % 2 = 0
  · rw [if_pos h, h]; rfl
  · rw [if_neg h]
    have : Nat.beq (k % 2) 0 = false := by
      cases hb : Nat.beq (k % 2) 0 with
      | false => rfl
      | true => exact absurd (Nat.eq_of_beq_eq_true hb) h
    rw [this]

theorem half_ne {j k : Nat} (h : j ≠ k) (hp : j % 2 = k % 2) : j / 2 ≠ k / 2 := by omega

theorem Tr.get_set (d v : α) : ∀ (f : Nat) (t : Tr α) (n i : Nat), (Tr.set d v f t n).get d i = if i = n then v else t.get d i := by
  intro f
  induction f with
  | zero => intro t n i; exact Tr.get_over d v n i t
  | succ f ih =>
    intro t n i
    cases t with
    | over m b t' => exact Tr.get_over d v n i _
    | nil =>
      cases n with
      | zero =>
        show (Tr.node v .nil .nil).get d i = _
        cases i with
        | zero => rfl
        | succ i => rw [Tr.get_succ]; simp [Tr.get_nil]
      | succ k =>
        rw [Tr.set_nil]
        cases i with
        | zero =>
          split
          · rfl
          · rfl
        | succ i =>
          split
          · rename_i hk
            rw [Tr.get_succ]
            by_cases hi : i % 2 = 0
            · rw [if_pos hi, ih]
              by_cases hik : i = k
              · subst hik; simp
              · rw [if_neg (half_ne hik (by omega)), if_neg (by omega)]; rfl
            · rw [if_neg hi, if_neg (by omega)]; rfl
          · rename_i hk
            rw [Tr.get_succ]
            by_cases hi : i % 2 = 0
            · rw [if_pos hi, if_neg (by omega)]; rfl
            · rw [if_neg hi, ih]
              by_cases hik : i = k
              · subst hik; simp
              · rw [if_neg (half_ne hik (by omega)), if_neg (by omega)]; rfl
    | node a l r =>
      cases n with
      | zero =>
        show (Tr.node v l r).get d i = _
        cases i with
        | zero => rfl
        | succ i => rw [Tr.get_succ, Tr.get_succ]; simp
      | succ k =>
        rw [Tr.set_node]
        cases i with
        | zero =>
          split
          · rfl
          · rfl
        | succ i =>
          rw [Tr.get_succ d a l r]
          split
          · rename_i hk
            rw [Tr.get_succ]
            by_cases hi : i % 2 = 0
            · rw [if_pos hi, if_pos hi, ih]
              by_cases hik : i = k
              · subst hik; simp
              · rw [if_neg (half_ne hik (by omega)), if_neg (by omega)]
            · rw [if_neg hi, if_neg hi, if_neg (by omega)]
          · rename_i hk
            rw [Tr.get_succ]
            by_cases hi : i % 2 = 0
            · rw [if_pos hi, if_pos hi, if_neg (by omega)]
            · rw [if_neg hi, if_neg hi, ih]
              by_cases hik : i = k
              · subst hik; simp
              · rw [if_neg (half_ne hik (by omega)), if_neg (by omega)]
end

/-- What stands in a slot: none: it has never been written. -/
noncomputable def slotOf (n i : Nat) (x : Option AV) : Option AV :=
  match x with
  | some v => some v
  | none => @Bool.rec (fun _ => Option AV) none (some undefAV) (Nat.blt i n)

/-- Slots. -/
structure Tm where
  T : Tr (Option AV)
  n : Nat
  l : List AV
  hn : n = l.length
  h : ∀ i, slotOf n i (T.get none i) = l[i]?

noncomputable def Tm.get (t : Tm) (i : Nat) : Option AV := slotOf t.n i (t.T.get none i)
theorem Tm.get_eq (t : Tm) (i : Nat) : t.get i = t.l[i]? := t.h i

/-- Blocks. -/
structure Hm where
  T : Tr AObj
  n : Nat
  l : List AObj
  hn : n = l.length
  h : ∀ i, T.get .dead i = l.getD i .dead

noncomputable def Tm.set (t : Tm) (i : Nat) (v : AV) : Tm where
  T := @Bool.rec (fun _ => Tr (Option AV)) t.T (Tr.set none (some v) 12 t.T i) (Nat.blt i t.n)
  n := t.n
  l := t.l.set i v
  hn := by rw [List.length_set]; exact t.hn
  h := fun j => by
    cases hb : Nat.blt i t.n with
    | false =>
      have hlt : ¬ i < t.l.length := fun h => by
        rw [← t.hn] at h
        have : Nat.blt i t.n = true := Nat.ble_eq_true_of_le h
        rw [hb] at this
        cases this
      show slotOf t.n j (t.T.get none j) = _
      rw [t.h, List.getElem?_set]
      by_cases hij : i = j
      · subst hij
        rw [if_pos rfl, if_neg hlt, List.getElem?_eq_none (Nat.le_of_not_lt hlt)]
      · rw [if_neg hij]
    | true =>
      have hlt : i < t.l.length := by rw [← t.hn]; exact Nat.le_of_ble_eq_true hb
      show slotOf t.n j ((Tr.set none (some v) 12 t.T i).get none j) = _
      rw [Tr.get_set, List.getElem?_set]
      by_cases hij : i = j
      · subst hij
        rw [if_pos rfl, if_pos rfl, if_pos hlt]
        rfl
      · rw [if_neg hij, if_neg (Ne.symm hij)]
        exact t.h j

/-- Slots out of a list. -/
noncomputable def Tm.build (l : List AV) : Nat → Tr (Option AV) → Tr (Option AV) :=
  @List.rec AV (fun _ => Nat → Tr (Option AV) → Tr (Option AV)) (fun _ t => t) (fun a _ ih k t => ih (Nat.succ k) (Tr.set none (some a) 12 t k)) l

theorem Tm.build_get : ∀ (l : List AV) (k : Nat) (t : Tr (Option AV)) (i : Nat), (Tm.build l k t).get none i = if k ≤ i ∧ i < k + l.length then l[i - k]? else t.get none i
  | [], k, t, i => by
    show t.get none i = _
    rw [if_neg (by simp)]
  | a :: l, k, t, i => by
    show (Tm.build l (k + 1) (Tr.set none (some a) 12 t k)).get none i = _
    rw [Tm.build_get l, Tr.get_set]
    by_cases h1 : k + 1 ≤ i ∧ i < k + 1 + l.length
    · rw [if_pos h1, if_pos (by simp; omega)]
      rw [show i - k = (i - (k + 1)) + 1 from by omega]
      rfl
    · rw [if_neg h1]
      by_cases h2 : i = k
      · subst h2
        rw [if_pos rfl, if_pos (by simp)]
        simp
      · rw [if_neg h2, if_neg (by simp; omega)]

noncomputable def lenN (l : List AV) : Nat := @List.rec AV (fun _ => Nat) 0 (fun _ _ ih => Nat.succ ih) l
theorem lenN_eq (l : List AV) : lenN l = l.length := by
  induction l with
  | nil => rfl
  | cons a l ih => show Nat.succ (lenN l) = _; rw [ih]; rfl

theorem slotOf_some (n i : Nat) (v : AV) : slotOf n i (some v) = some v := rfl
theorem slotOf_none (n i : Nat) : slotOf n i none = if i < n then some undefAV else none := by
  show @Bool.rec (fun _ => Option AV) none (some undefAV) (Nat.blt i n) = _
  by_cases h : i < n
  · rw [if_pos h, show Nat.blt i n = true from Nat.ble_eq_true_of_le h]
  · rw [if_neg h]
    cases hb : Nat.blt i n with
    | false => rfl
    | true => exact absurd (Nat.le_of_ble_eq_true hb) h

/-- The arguments, and slots that are not yet written. -/
noncomputable def Tm.frame (args : List AV) (n : Nat) : Tm where
  T := Tm.build args 0 .nil
  n := Nat.add (lenN args) (Nat.sub n (lenN args))
  l := args ++ List.replicate (n - args.length) undefAV
  hn := by rw [lenN_eq]; simp
  h := fun i => by
    rw [Tm.build_get, lenN_eq, List.getElem?_append]
    by_cases h : i < args.length
    · rw [if_pos (by omega), if_pos h]
      simp only [Nat.sub_zero, List.getElem?_eq_getElem h]
      rfl
    · rw [if_neg (by omega), if_neg h, Tr.get_nil, slotOf_none, List.getElem?_replicate]
      show (if i < args.length + (n - args.length) then some undefAV else none) = _
      by_cases h2 : i < args.length + (n - args.length)
      · rw [if_pos h2, if_pos (by omega)]
      · rw [if_neg h2, if_neg (by omega)]

noncomputable def Tm.ofL (l : List AV) : Tm where
  T := Tm.build l 0 .nil
  n := lenN l
  l := l
  hn := lenN_eq l
  h := fun i => by
    rw [Tm.build_get]
    by_cases h : i < l.length
    · rw [if_pos (by omega), Nat.sub_zero, List.getElem?_eq_getElem h]; rfl
    · rw [if_neg (by omega), List.getElem?_eq_none (by omega), Tr.get_nil, slotOf_none, lenN_eq, if_neg h]

/-- The slots as a list. -/
noncomputable def Tm.toL (t : Tm) : List AV :=
  @Nat.rec (fun _ => List AV → List AV) (fun acc => acc) (fun k ih acc => ih ((match t.get k with | some v => v | none => undefAV) :: acc)) t.n []

theorem Tm.toL_eq (t : Tm) : t.toL = t.l := by
  have key : ∀ (k : Nat) (acc : List AV), k ≤ t.l.length → @Nat.rec (fun _ => List AV → List AV) (fun acc => acc) (fun k ih acc => ih ((match t.get k with | some v => v | none => undefAV) :: acc)) k acc = t.l.take k ++ acc := by
    intro k
    induction k with
    | zero => intro acc _; show acc = _; simp
    | succ k ih =>
      intro acc hk
      show @Nat.rec (fun _ => List AV → List AV) (fun acc => acc) (fun k ih acc => ih ((match t.get k with | some v => v | none => undefAV) :: acc)) k ((match t.get k with | some v => v | none => undefAV) :: acc) = _
      rw [ih _ (by omega), t.get_eq, List.take_add_one, List.getElem?_eq_getElem (by omega : k < t.l.length)]
      simp only [Option.toList_some, List.append_assoc, List.singleton_append]
  have := key t.n [] (by rw [t.hn]; exact Nat.le_refl _)
  unfold Tm.toL
  rw [this, t.hn]
  simp

noncomputable def Hm.nil : Hm where
  T := .nil
  n := 0
  l := []
  hn := rfl
  h := fun i => by simp [Tr.get_nil]

/-- The block k becomes o. -/
noncomputable def Hm.set (H : Hm) (k : Nat) (o : AObj) : Hm where
  T := @Bool.rec (fun _ => Tr AObj) H.T (Tr.set .dead o 14 H.T k) (Nat.blt k H.n)
  n := H.n
  l := H.l.set k o
  hn := by rw [List.length_set]; exact H.hn
  h := fun j => by
    cases hb : Nat.blt k H.n with
    | false =>
      have hlt : ¬ k < H.l.length := fun h => by
        rw [← H.hn] at h
        have : Nat.blt k H.n = true := Nat.ble_eq_true_of_le h
        rw [hb] at this
        cases this
      show H.T.get .dead j = _
      rw [H.h, List.getD_eq_getElem?_getD, List.getD_eq_getElem?_getD, List.getElem?_set]
      by_cases hij : k = j
      · subst hij
        rw [if_pos rfl, if_neg hlt, List.getElem?_eq_none (Nat.le_of_not_lt hlt)]
      · rw [if_neg hij]
    | true =>
      have hlt : k < H.l.length := by rw [← H.hn]; exact Nat.le_of_ble_eq_true hb
      show (Tr.set .dead o 14 H.T k).get .dead j = _
      rw [Tr.get_set, H.h, getD_set_blk _ _ _ hlt]

/-- One block more. -/
noncomputable def Hm.push (H : Hm) (o : AObj) : Hm where
  T := Tr.set .dead o 14 H.T H.n
  n := Nat.succ H.n
  l := H.l ++ [o]
  hn := by simp [H.hn]
  h := fun j => by
    rw [Tr.get_set, H.h, H.hn]
    simp only [List.getD_eq_getElem?_getD, List.getElem?_append]
    by_cases hj : j = H.l.length
    · subst hj; simp
    · rw [if_neg hj]
      split
      · rfl
      · rename_i hlt
        rw [List.getElem?_eq_none (by omega), List.getElem?_eq_none (by simp; omega)]

/-- Room for so many blocks more. -/
noncomputable def Hm.pad (H : Hm) (n : Nat) : Hm where
  T := H.T
  n := Nat.add H.n n
  l := H.l ++ List.replicate n .dead
  hn := by simp [H.hn]
  h := fun j => by
    rw [H.h]
    simp only [List.getD_eq_getElem?_getD, List.getElem?_append]
    split
    · rfl
    · rename_i hlt
      rw [List.getElem?_eq_none (by omega), List.getElem?_replicate]
      split <;> rfl

/-- Are all blocks from k on dead? -/
noncomputable def Hm.deadFrom (H : Hm) (k : Nat) : Bool :=
  @Nat.rec (fun _ => Bool) true (fun j ih => @Bool.rec (fun _ => Bool) false ih (isDead (H.T.get .dead (Nat.add k j)))) (Nat.sub H.n k)

theorem Hm.deadFrom_eq (H : Hm) (k : Nat) : H.deadFrom k = (H.l.drop k).all isDead := by
  have key : ∀ m, k + m ≤ H.l.length → @Nat.rec (fun _ => Bool) true (fun j ih => @Bool.rec (fun _ => Bool) false ih (isDead (H.T.get .dead (Nat.add k j)))) m = ((H.l.drop k).take m).all isDead := by
    intro m
    induction m with
    | zero => intro _; show true = _; simp
    | succ m ih =>
      intro hm
      show @Bool.rec (fun _ => Bool) false (@Nat.rec (fun _ => Bool) true (fun j ih => @Bool.rec (fun _ => Bool) false ih (isDead (H.T.get .dead (Nat.add k j)))) m) (isDead (H.T.get .dead (k + m))) = _
      rw [ih (by omega), List.take_add_one, List.all_append, H.h]
      have : H.l.getD (k + m) .dead = (H.l.drop k)[m]'(by simp; omega) := by
        simp only [List.getD_eq_getElem?_getD, List.getElem_drop]
        rw [List.getElem?_eq_getElem (by omega)]
        rfl
      rw [this, List.getElem?_eq_getElem (by simp; omega : m < (H.l.drop k).length)]
      generalize (H.l.drop k)[m]'(by simp; omega) = y
      cases hy : isDead y <;> simp [hy]
  unfold Hm.deadFrom
  rcases Nat.le_total k H.l.length with h | h
  · have := key (H.l.length - k) (by omega)
    rw [show Nat.sub H.n k = H.l.length - k from by rw [H.hn]; rfl, this]
    rw [List.take_of_length_le (by simp)]
  · rw [show Nat.sub H.n k = 0 from by rw [H.hn]; exact Nat.sub_eq_zero_of_le h, List.drop_eq_nil_of_le h]
    rfl

/-- The first k blocks, where the others are dead. -/
noncomputable def Hm.cut (H : Hm) (k : Nat) (hk : k ≤ H.l.length) (hd : (H.l.drop k).all isDead = true) : Hm where
  T := H.T
  n := k
  l := H.l.take k
  hn := by simp; omega
  h := fun j => by
    rw [H.h]
    simp only [List.getD_eq_getElem?_getD, List.getElem?_take]
    split
    · rfl
    · rename_i hlt
      cases hx : H.l[j]? with
      | none => rfl
      | some y =>
        have hy : y ∈ H.l.drop k := by
          rw [List.mem_iff_getElem?]
          refine ⟨j - k, ?_⟩
          rw [List.getElem?_drop, ← hx]
          congr 1
          omega
        have := List.all_eq_true.1 hd y hy
        cases y <;> simp [isDead] at this
        rfl

noncomputable def Hm.ofL (l : List AObj) : Hm := l.foldl Hm.push .nil
theorem Hm.ofL_eq (l : List AObj) : (Hm.ofL l).l = l := by
  have : ∀ (l : List AObj) (H : Hm), (l.foldl Hm.push H).l = H.l ++ l := by
    intro l
    induction l with
    | nil => intro H; simp
    | cons o l ih => intro H; rw [List.foldl_cons, ih]; simp [Hm.push]
  unfold Hm.ofL
  rw [this]
  rfl

noncomputable def Hm.at (H : Hm) (k : Nat) : Option AObj := @Bool.rec (fun _ => Option AObj) none (some (H.T.get .dead k)) (Nat.blt k H.n)
theorem Hm.at_eq (H : Hm) (k : Nat) : H.at k = H.l[k]? := by
  unfold Hm.at
  cases hb : Nat.blt k H.n with
  | false =>
    have hlt : ¬ k < H.l.length := fun h => by
      rw [← H.hn] at h
      have : Nat.blt k H.n = true := Nat.ble_eq_true_of_le h
      rw [hb] at this
      cases this
    rw [List.getElem?_eq_none (by omega)]
  | true =>
    have hlt : k < H.l.length := by rw [← H.hn]; exact Nat.le_of_ble_eq_true hb
    show some (H.T.get .dead k) = _
    rw [H.h, List.getElem?_eq_getElem hlt]
    simp [hlt]
end Go.Proofs.Ytmmabdpmeijgmaa.AM
