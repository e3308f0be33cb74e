/- The state of a frame, and what an effect makes of it. -/
import Derived.Test.YtmmabdpmeijgmaaA11
namespace Go.Proofs.Ytmmabdpmeijgmaa.AM
open Go

def mOf (tmps : List AV) (H : List AObj) : Loc → AObj
  | .blk id => H.getD id .dead
  | .box t => boxOf tmps t

def hpA (tmps : List AV) (H : List AObj) (A : Nat → Prop) : Hp := ⟨mOf tmps H, A⟩

/-- An address within the variable of a slot is given up. -/
def killL (t : Nat) : AV → AV
  | .lptr s o => if s = t then .dead else .lptr s o
  | v => v

def setD (tmps : List AV) : Option Nat → AV → List AV
  | some d, v => tmps.set d v
  | none, _ => tmps

def setB (H : List AObj) (k : Nat) (o : AObj) : Option (List AObj) :=
  if k < H.length then some (H.set k o) else if k = H.length then some (H ++ [o]) else none

def putE (e : Eff) (k : Nat) (d : Option Nat) (tmps : List AV) (H : List AObj) : Option (List AV × List AObj) :=
  match e with
  | .val v _ => some (setD tmps d v, H)
  | .wr v _ (.blk id) o => if id < H.length then some (setD tmps d v, H.set id o) else none
  | .wr _ _ (.box t) o => match d, tmps[t]?, o with
    | none, some (.lbox _), .cells cs => some (tmps.set t (.lbox cs), H)
    | _, _, _ => none
  | .nw v _ o => (setB H k o).map fun H' => (setD tmps d v, H')
  | .bx cs => match d with
    | some t => if t < tmps.length then some ((tmps.map (killL t)).set t (.lbox cs), H) else none
    | none => none

def alE (e : Eff) (k : Nat) (A : Nat → Prop) : Nat → Prop :=
  match e with
  | .nw _ _ _ => fun i => A i ∨ i = k
  | _ => A

theorem getD_set_blk (H : List AObj) (k : Nat) (o : AObj) (hk : k < H.length) (id : Nat) : (H.set k o).getD id .dead = if id = k then o else H.getD id .dead := by
  simp only [List.getD_eq_getElem?_getD, List.getElem?_set]
  by_cases h : k = id
  · subst h; simp [hk]
  · simp [h, Ne.symm h]

theorem getD_setB {H H' : List AObj} {k : Nat} {o : AObj} (hb : setB H k o = some H') (id : Nat) : H'.getD id .dead = if id = k then o else H.getD id .dead := by
  unfold setB at hb
  split at hb
  · cases hb; exact getD_set_blk H k o (by assumption) id
  · split at hb
    · cases hb
      rename_i h1 h2
      subst h2
      simp only [List.getD_eq_getElem?_getD, List.getElem?_append]
      by_cases h : id < H.length
      · simp [h, Nat.ne_of_lt h]
      · by_cases h3 : id = H.length
        · subst h3; simp
        · have h4 : (id - H.length) ≠ 0 := by omega
          simp [h, h3, h4]
    · cases hb

theorem boxOf_set (tmps : List AV) (d : Nat) (v : AV) (hv : ∀ cs, v ≠ .lbox cs) (t : Nat) : boxOf (tmps.set d v) t = if t = d then (if d < tmps.length then .dead else boxOf tmps t) else boxOf tmps t := by
  unfold boxOf
  rw [List.getElem?_set]
  by_cases h : d = t
  · subst h
    by_cases hd : d < tmps.length
    · simp only [hd, if_true]
      cases v <;> first | rfl | exact absurd rfl (hv _)
    · simp [hd]
  · simp [h, Ne.symm h]

theorem boxOf_set_box (tmps : List AV) (d : Nat) (cs : List AV) (hd : d < tmps.length) (t : Nat) : boxOf (tmps.set d (.lbox cs)) t = if t = d then .cells cs else boxOf tmps t := by
  unfold boxOf
  rw [List.getElem?_set]
  by_cases h : d = t
  · subst h
    simp [hd]
  · simp [h, Ne.symm h]

theorem boxOf_kill (tmps : List AV) (s t : Nat) : boxOf (tmps.map (killL s)) t = boxOf tmps t := by
  unfold boxOf
  rw [List.getElem?_map]
  cases h : tmps[t]? with
  | none => rfl
  | some v =>
    cases v <;> simp [killL]
    rename_i a b
    by_cases hs : a = s <;> simp [hs]

section
variable {σ σ' : Sim} {h h' : Hp} {w w' : World} {P : Program} {ti : TI} {tmps tmps' : List AV} {H H' : List AObj} {A : Nat → Prop} {a : Act}

theorem put_some {d : Nat} {r : Value} {t : Nat} {u : Value} (hu : (a.put (some d) r).tmps[t]? = some u) : (t = d ∧ d < a.tmps.size ∧ u = r) ∨ (t ≠ d ∧ a.tmps[t]? = some u) := by
  simp only [Act.put, Array.getElem?_setIfInBounds] at hu
  by_cases h : d = t
  · subst h
    by_cases h2 : d < a.tmps.size
    · simp [h2] at hu; exact .inl ⟨rfl, h2, hu.symm⟩
    · simp [h2] at hu
  · rw [if_neg h] at hu
    exact .inr ⟨Ne.symm h, hu⟩

theorem VT_ext (x : Ext σ h w σ' h' w') (hr : RH σ h w) {t : Nat} {c : AV} {u : Value} (hb : ∀ s, (∃ o, c = .lptr s o) ∨ ((∃ cs, c = .lbox cs) ∧ s = t) → σ'.ρ (.box s) = σ.ρ (.box s)) (hv : VT σ h w t c u) : VT σ' h' w' t c u := by
  cases c with
  | lbox cs => obtain ⟨b, h1, h2⟩ := hv; exact ⟨b, by rw [hb t (.inr ⟨⟨_, rfl⟩, rfl⟩)]; exact h1, h2⟩
  | lptr s o => obtain ⟨b, h1, h2⟩ := hv; exact ⟨b, by rw [hb s (.inl ⟨_, rfl⟩)]; exact h1, h2⟩
  | _ => exact V.ext x hr hv

theorem VA_ext (x : Ext σ h w σ' h' w') (hr : RH σ h w) {c : AV} {u : Value} (hb : ∀ s, σ'.ρ (.box s) = σ.ρ (.box s)) (hv : VA σ h w c u) : VA σ' h' w' c u := by
  cases c with
  | lptr s o => obtain ⟨b, h1, h2⟩ := hv; exact ⟨b, by rw [hb s]; exact h1, h2⟩
  | _ => exact V.ext x hr hv

theorem VA_not_lbox {c : AV} {u : Value} (hv : VA σ h w c u) : ∀ cs, c ≠ .lbox cs := by
  rintro cs rfl
  simp only [VA] at hv
  cases hv

theorem VT_of_VA {t : Nat} {c : AV} {u : Value} (hv : VA σ h w c u) : VT σ h w t c u := by
  cases c with
  | lbox cs => exact absurd rfl (VA_not_lbox hv cs)
  | lptr s o => exact hv
  | _ => exact hv

/-- A slot is written. -/
theorem slot_sound {h1 : Hp} {σ1 : Sim} {w1 : World} {H1 : List AObj} {A1 : Nat → Prop} {d : Option Nat} {v : AV} {r : Value} (hr : RF σ (hpA tmps H A) w tmps a) (he : h1 = hpA tmps H1 A1) (x : Ext σ (hpA tmps H A) w σ1 h1 w1) (hr1 : RH σ1 h1 w1)
    (hv : VA σ1 h1 w1 v r) (hb : ∀ s, σ1.ρ (.box s) = σ.ρ (.box s)) :
    RF σ1 (hpA (setD tmps d v) H1 A1) w1 (setD tmps d v) (a.put d r) ∧ Ext σ (hpA tmps H A) w σ1 (hpA (setD tmps d v) H1 A1) w1 := by
  subst he
  cases d with
  | none =>
    refine ⟨⟨hr1, fun t => rfl, hr.len, fun t c u hc hu => ?_⟩, x⟩
    exact VT_ext x hr.heap (fun s _ => hb s) (hr.val t c u hc hu)
  | some d =>
    simp only [setD]
    by_cases hd : d < tmps.length
    · obtain ⟨x2, hr2⟩ := hr1.drop (.box d)
      have heq : (hpA tmps H1 A1).set (.box d) .dead = hpA (tmps.set d v) H1 A1 := by
        unfold hpA Hp.set
        congr 1
        funext l
        cases l with
        | blk id => simp [mOf]
        | box t =>
          simp only [mOf, boxOf_set tmps d v (VA_not_lbox hv) t, hd, if_true]
          by_cases ht : t = d
          · subst ht; simp
          · simp [ht]
      rw [heq] at x2 hr2
      have x3 := x.trans x2
      refine ⟨⟨hr2, fun t => rfl, by simp only [Act.put, Array.size_setIfInBounds, List.length_set]; exact hr.len, fun t c u hc hu => ?_⟩, x3⟩
      rcases put_some hu with ⟨rfl, _, rfl⟩ | ⟨hne, hu⟩
      · rw [List.getElem?_set_self hd] at hc
        cases hc
        exact VT_of_VA (VA_ext x2 hr1 (fun _ => rfl) hv)
      · rw [List.getElem?_set_ne (Ne.symm hne)] at hc
        exact VT_ext x3 hr.heap (fun s _ => hb s) (hr.val t c u hc hu)
    · have h0 : tmps.set d v = tmps := List.set_eq_of_length_le (Nat.le_of_not_lt hd)
      have h00 : a.put (some d) r = a := by
        simp only [Act.put]
        rw [Array.setIfInBounds_eq_of_size_le (by rw [hr.len]; exact Nat.le_of_not_lt hd)]
      rw [h0, h00]
      exact ⟨⟨hr1, fun t => rfl, hr.len, fun t c u hc hu => VT_ext x hr.heap (fun s _ => hb s) (hr.val t c u hc hu)⟩, x⟩

theorem put_sound {e : Eff} {k : Nat} {d : Option Nat} {r : Value} (hr : RF σ (hpA tmps H A) w tmps a) (hl : e.Leaves σ (hpA tmps H A) w k d r w') (hp : putE e k d tmps H = some (tmps', H')) :
    ∃ σ', RF σ' (hpA tmps' H' (alE e k A)) w' tmps' (a.put d r) ∧ Ext σ (hpA tmps H A) w σ' (hpA tmps' H' (alE e k A)) w' := by
  obtain ⟨σ', x, hr', hm⟩ := hl
  refine ⟨σ', ?_⟩
  cases e with
  | val v rd =>
    cases hp
    exact slot_sound hr rfl x hr' hm.1 hm.2
  | wr v rd l o =>
    cases l with
    | blk id =>
      simp only [putE] at hp
      split at hp
      · rename_i hid
        cases hp
        refine slot_sound hr ?_ x hr' hm.1 hm.2
        simp only [Eff.hp, Hp.set, hpA, alE]
        congr 1
        funext l
        cases l with
        | blk i => simp only [mOf, getD_set_blk H id o hid, Loc.blk.injEq]
        | box t => simp [mOf]
      · cases hp
    | box t =>
      simp only [putE] at hp
      split at hp
      · rename_i cs0 cs ht
        cases hp
        have htl := (List.getElem?_eq_some_iff.1 ht).1
        have hm2 : ∀ s, σ'.ρ (.box s) = σ.ρ (.box s) := hm.2
        have heq : Eff.hp (.wr v rd (.box t) (.cells cs)) (hpA tmps H A) k none = hpA (tmps.set t (.lbox cs)) H A := by
          simp only [Eff.hp, Hp.set, hpA]
          congr 1
          funext l
          cases l with
          | blk i => simp [mOf]
          | box s => simp [mOf, boxOf_set_box tmps t cs htl]
        rw [heq] at x hr'
        refine ⟨⟨hr', fun s => rfl, by rw [List.length_set]; exact hr.len, fun s c u hc hu => ?_⟩, x⟩
        by_cases hs : s = t
        · subst hs
          rw [List.getElem?_set_self htl] at hc
          cases hc
          obtain ⟨b, h1, h2⟩ := hr.val s _ u ht hu
          exact ⟨b, by rw [hm2]; exact h1, h2⟩
        · rw [List.getElem?_set_ne (Ne.symm hs)] at hc
          exact VT_ext x hr.heap (fun s _ => hm2 s) (hr.val s c u hc hu)
      · cases hp
  | nw v rd o =>
    simp only [putE, Option.map_eq_some_iff] at hp
    obtain ⟨H1, hb, hp⟩ := hp
    cases hp
    refine slot_sound hr ?_ x hr' hm.1 hm.2
    simp only [Eff.hp, Hp.new, hpA, alE]
    congr 1
    funext l
    cases l with
    | blk i => simp only [mOf, getD_setB hb, Loc.blk.injEq]
    | box t => simp [mOf]
  | bx cs =>
    obtain ⟨t, b, rfl, h1, rfl, h2⟩ := hm
    simp only [putE] at hp
    split at hp
    · rename_i htl
      cases hp
      have heq : Eff.hp (.bx cs) (hpA tmps H A) k (some t) = hpA ((tmps.map (killL t)).set t (.lbox cs)) H A := by
        simp only [Eff.hp, Hp.set, hpA]
        congr 1
        funext l
        cases l with
        | blk i => simp [mOf]
        | box s => simp [mOf, boxOf_set_box (tmps.map (killL t)) t cs (by simpa using htl), boxOf_kill]
      rw [heq] at x hr'
      refine ⟨⟨hr', fun s => rfl, by simp only [Act.put, Array.size_setIfInBounds, List.length_set, List.length_map]; exact hr.len, fun s c u hc hu => ?_⟩, x⟩
      rcases put_some hu with ⟨rfl, _, rfl⟩ | ⟨hne, hu⟩
      · rw [List.getElem?_set_self (by simpa using htl)] at hc
        cases hc
        exact ⟨b, h1, rfl⟩
      · rw [List.getElem?_set_ne (Ne.symm hne), List.getElem?_map] at hc
        cases h0 : tmps[s]? with
        | none => rw [h0] at hc; cases hc
        | some c0 =>
          rw [h0] at hc
          have hv := hr.val s c0 u h0 hu
          have gen : killL t c0 = c0 → (∀ o, c0 ≠ .lptr t o) → VT σ' (hpA ((tmps.map (killL t)).set t (.lbox cs)) H (alE (.bx cs) k A)) w' s c u := fun hk hn => by
            have hc' : c = c0 := by simpa [hk] using hc.symm
            subst hc'
            refine VT_ext x hr.heap (fun s' hs' => h2 s' ?_) hv
            rcases hs' with ⟨o, rfl⟩ | ⟨_, rfl⟩
            · rintro rfl; exact hn o rfl
            · exact hne
          cases c0 with
          | lptr s' o =>
            by_cases hs' : s' = t
            · subst hs'
              simp [killL] at hc
              subst hc
              exact V.dead u
            · exact gen (by simp [killL, hs']) (fun o' ho => by injection ho with h3; exact hs' h3)
          | _ => exact gen rfl (fun _ ho => by cases ho)
    · cases hp
end
end Go.Proofs.Ytmmabdpmeijgmaa.AM
