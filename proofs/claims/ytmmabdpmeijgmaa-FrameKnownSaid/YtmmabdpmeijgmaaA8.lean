/- What writes and makes: stores, variables, literals, make, append, copy, conversions. -/
import Derived.Test.YtmmabdpmeijgmaaA7
import Derived.IntWalk
namespace Go.Proofs.Ytmmabdpmeijgmaa.AM
open Go

def Eff.hp (e : Eff) (h : Hp) (k : Nat) (d : Option Nat) : Hp :=
  match e with
  | .val _ _ => h
  | .wr _ _ l o => h.set l o
  | .nw _ _ o => h.new k o
  | .bx cs => match d with
    | some t => h.set (.box t) (.cells cs)
    | none => h

/-- What an operation leaves: the value, the world, and how they stand to the abstract ones. -/
def Eff.Leaves (e : Eff) (σ : Sim) (h : Hp) (w : World) (k : Nat) (d : Option Nat) (r : Value) (w' : World) : Prop :=
  ∃ σ', Ext σ h w σ' (e.hp h k d) w' ∧ RH σ' (e.hp h k d) w' ∧
    (match e with
     | .bx _ => ∃ t b, d = some t ∧ σ'.ρ (.box t) = some b ∧ r = .pointer (some ⟨b, 0, none⟩) ∧ ∀ s, s ≠ t → σ'.ρ (.box s) = σ.ρ (.box s)
     | e => VA σ' (e.hp h k d) w' e.v r ∧ ∀ s, σ'.ρ (.box s) = σ.ρ (.box s))

/-- Cells of a value that may stand in memory. -/
def cellsIn (x : AV) : Option (List AV) := if x.cells.all AV.one then some x.cells else none

def aAlloc (ti : TI) (lc : Bool) (k : Nat) (t : TypeId) : Option Eff := do
  let z ← ti.zero t
  let c ← ofVal z
  let cs ← cellsIn c
  if lc then some (.bx cs) else some (.nw (.ptr k 0 cs.length) [] (.cells cs))

def aBox (lc : Bool) (k : Nat) (x : AV) : Option Eff := do
  let cs ← cellsIn x
  if lc then some (.bx cs) else some (.nw (.ptr k 0 cs.length) [] (.cells cs))

/-- Parts laid into cells. -/
def aFill (place : Nat → Option (Nat × Nat)) (cs : List AV) : List (Nat × AV) → Option (List AV)
  | [] => some cs
  | (i, x) :: rest =>
    match place i with
    | none => none
    | some (off, size) =>
      if x.cells.length = size ∧ off + x.cells.length ≤ cs.length ∧ x.cells.all AV.one = true then aFill place (setAt cs off x.cells) rest else none

def zerosOf (ti : TI) (e : TypeId) : Option (List AV) := do
  let z ← ti.zero e
  let c ← ofVal z
  cellsIn c

def fieldPlaces (ti : TI) (t : TypeId) : Option (Nat → Option (Nat × Nat)) :=
  match ti.und t with
  | some (.struct fs) =>
    if fs.all fun f => (ti.sz f.type).isSome then some fun i => (fs[i]?).map fun (f : Field) => (f.offset, (ti.sz f.type).getD 0) else none
  | some (.array _ e) => (ti.sz e).map fun n => fun i => some (i * n, n)
  | _ => none

def aBuild (ti : TI) (t : TypeId) (parts : List (Nat × AV)) : Option AV := do
  let zs ← zerosOf ti t
  let pl ← fieldPlaces ti t
  let cs ← aFill pl zs parts
  some (.agg cs)

def rep (n : Nat) (zs : List AV) : List AV := (List.replicate n zs).flatten

def aBuildSlice (ti : TI) (k : Nat) (t : TypeId) (len : Nat) (parts : List (Nat × AV)) : Option Eff := do
  let e ← elemOf ti t
  let n ← ti.sz e
  let zs ← zerosOf ti e
  if zs.length = n ∧ 0 < n ∧ len * n ≤ 16777216 then
    let cs ← aFill (fun i => some (i * n, n)) (rep len zs) parts
    some (.nw (.slc k 0 len n (len * n)) [] (.cells cs))
  else none

def aMake (ti : TI) (k : Nat) (t : TypeId) (l c : AV) : Option Eff := do
  let e ← elemOf ti t
  let n ← ti.sz e
  let b ← ti.bt e
  let zs ← zerosOf ti e
  let l ← l.num
  let c ← c.num
  if zs.length = n ∧ 0 < n ∧ 0 ≤ l ∧ l ≤ c ∧ b * c ≤ 281474976710656 ∧ c ≤ 9223372036854775807 then
    some (.nw (.slc k 0 l.toNat n (l.toNat * n)) [] (.cells (rep l.toNat zs)))
  else none

section
variable {σ σ' : Sim} {h h' : Hp} {w w' : World} {P : Program} {ti : TI} {tmps : List AV} {a : Act}

theorem cellsIn_all {x : AV} {cs : List AV} (hc : cellsIn x = some cs) : cs = x.cells ∧ x.cells.all AV.one = true := by
  unfold cellsIn at hc
  split at hc
  · cases hc; exact ⟨rfl, by assumption⟩
  · cases hc

/-- Values in an array tell abstract cells. -/
def ArrRel (σ : Sim) (h : Hp) (w : World) (cs : List AV) (arr : Array Value) : Prop := ∀ (i : Nat) c, cs[i]? = some c → ∃ u, arr[i]? = some u ∧ u.oneCell' = true ∧ V σ h w c u

theorem arrRel_of {x : AV} {u : Value} (hv : V σ h w x u) (h1 : x.cells.all AV.one = true) : ArrRel σ h w x.cells u.cells ∧ u.cells.size = x.cells.length := by
  obtain ⟨k1, k2⟩ := cells_rel hv h1
  refine ⟨fun i c hi => ?_, k1⟩
  have hlt := (List.getElem?_eq_some_iff.1 hi).1
  have hu : u.cells[i]? = some (u.cells[i]'(by omega)) := Array.getElem?_eq_getElem _
  have hvv := k2 i c _ hi (by rw [Array.getElem?_toList]; exact hu)
  exact ⟨_, hu, hvv.one (List.all_eq_true.1 h1 c (List.mem_of_getElem? hi)), hvv⟩

theorem leaves_nw (hr : RH σ h w) {k : Nat} (hk : ¬ h.al k) {cs : List AV} {arr : Array Value} {e : TypeId} {lo hi : Nat} {d : Option Nat} {v : AV} {r : Value} {rd : List Loc} (hlen : cs.length ≤ arr.size) (h1 : ∀ c ∈ cs, c.one = true)
    (hfz : lo ≤ hi ∧ ∀ i, i < arr.size → ¬ (lo ≤ i ∧ i < hi)) (hcs : ArrRel σ h w cs arr)
    (hv : ∀ σ' h' w', (h'.m (.blk k)).stamp = some cs.length → h'.al k → σ'.ρ (.blk k) = some w.heap.size → w'.heap[w.heap.size]? = some (.cells arr e (lo, hi)) → VA σ' h' w' v r) :
    (Eff.nw v rd (.cells cs)).Leaves σ h w k d r (w.alloc (.cells arr e (lo, hi))) := by
  obtain ⟨x, hr'⟩ := RH.alloc hr hk hlen h1 hfz hcs
  refine ⟨_, x, hr', hv _ _ _ (by simp [Eff.hp, AObj.stamp]) (.inr rfl) (Sim.set_same _ _ _) (heap_alloc_same _ _), fun s => Sim.set_other _ _ (by simp)⟩

theorem leaves_box (hr : RH σ h w) {t : Nat} {cs : List AV} {arr : Array Value} {e : TypeId} {lo hi : Nat} {k : Nat} (hlen : cs.length ≤ arr.size) (h1 : ∀ c ∈ cs, c.one = true)
    (hfz : lo ≤ hi ∧ ∀ i, i < arr.size → ¬ (lo ≤ i ∧ i < hi)) (hcs : ArrRel σ h w cs arr) :
    (Eff.bx cs).Leaves σ h w k (some t) (.pointer (some ⟨w.heap.size, 0, none⟩)) (w.alloc (.cells arr e (lo, hi))) := by
  obtain ⟨x, hr'⟩ := RH.renew hr (l := .box t) hlen h1 hfz hcs (fun id hid => by cases hid)
  exact ⟨_, x, hr', t, _, rfl, Sim.set_same _ _ _, rfl, fun s hs => Sim.set_other _ _ (by simpa using hs)⟩

theorem newVar_leaves (hr : RH σ h w) {k : Nat} (hk : ¬ h.al k) {d : Option Nat} {x : AV} {u : Value} {lc : Bool} {e : Eff} (hd : lc = true → d.isSome = true) (he : aBox lc k x = some e) (hv : V σ h w x u) (t : TypeId) :
    e.Leaves σ h w k d (.pointer (some ⟨w.heap.size, 0, none⟩)) (w.alloc (.cells u.cells t)) := by
  unfold aBox at he
  simp only [Option.bind_eq_bind, Option.bind_eq_some_iff] at he
  obtain ⟨cs, hcs, he⟩ := he
  obtain ⟨rfl, hall⟩ := cellsIn_all hcs
  obtain ⟨k1, k2⟩ := arrRel_of hv hall
  have k3 := List.all_eq_true.1 hall
  cases lc with
  | true =>
    simp only [if_true] at he
    cases he
    obtain ⟨t', rfl⟩ := Option.isSome_iff_exists.1 (hd rfl)
    exact leaves_box hr (by omega) k3 ⟨by omega, fun i _ => by omega⟩ k1
  | false =>
    simp only [Bool.false_eq_true, if_false] at he
    cases he
    exact leaves_nw hr hk (by omega) k3 ⟨by omega, fun i _ => by omega⟩ k1 (fun σ' h' w' m1 m2 m3 _ => .ptr m1 m2 m3)

theorem aAlloc_sound (hti : TIok P ti) (hr : RH σ h w) {k : Nat} (hk : ¬ h.al k) {d : Option Nat} {t : TypeId} {lc : Bool} {e : Eff} (hd : lc = true → d.isSome = true) (he : aAlloc ti lc k t = some e) (old : Value) :
    ∃ r w', (Instr.alloc t true old).run P w = .ok r w' ∧ e.Leaves σ h w k d r w' := by
  unfold aAlloc at he
  simp only [Option.bind_eq_bind, Option.bind_eq_some_iff] at he
  obtain ⟨z, hz, c, hc, cs, hcs, he⟩ := he
  refine ⟨_, _, ?_, newVar_leaves hr hk hd (x := c) (u := z) (by unfold aBox; exact Option.bind_eq_some_iff.2 ⟨cs, hcs, he⟩) (ofVal_sound hc) t⟩
  cases old <;> simp [Instr.alloc, run_zero hti hz, newVar, newRow]

theorem aBox_sound (hr : RH σ h w) {k : Nat} (hk : ¬ h.al k) {d : Option Nat} {t : TypeId} {lc : Bool} {e : Eff} {x : AV} {u : Value} (hd : lc = true → d.isSome = true) (he : aBox lc k x = some e) (hv : V σ h w x u) :
    ∃ r w', (Instr.box t u).run P w = .ok r w' ∧ e.Leaves σ h w k d r w' :=
  ⟨_, _, by simp [Instr.box, newVar, newRow], newVar_leaves hr hk hd he hv t⟩

/-- A variable is written. -/
theorem aStore_sound (hti : TIok P ti) (hr : RH σ h w) {t : TypeId} {ad x : AV} {e : Eff} {u v : Value} {k : Nat} {d : Option Nat} (he : aStore ti h.m t ad x = some e) (hu : VA σ h w ad u) (hv : V σ h w x v) :
    ∃ w', (Instr.storeAt t u v).run P w = .ok () w' ∧ e.Leaves σ h w k d undef w' := by
  unfold aStore at he
  simp only [Option.bind_eq_bind, Option.bind_eq_some_iff] at he
  obtain ⟨n, hn, he⟩ := he
  split at he
  · rename_i hc
    obtain ⟨hl, hall⟩ := hc
    obtain ⟨k1, k2⟩ := cells_rel hv hall
    have main : ∀ (l : Loc) (bs : List AV) (b off : Nat), h.m l = .cells bs → σ.ρ l = some b → off + n ≤ bs.length → e = .wr undefAV [l] l (.cells (setAt bs off x.cells)) → u = .pointer (some ⟨b, off, none⟩) →
        ∃ w', (Instr.storeAt t u v).run P w = .ok () w' ∧ e.Leaves σ h w k d undef w' := by
      intro l bs b off hm hb hle he hu
      subst he hu
      obtain ⟨w', h1, h2, h3⟩ := RH.storeCells (P := P) hb v.cells.toList x.cells bs h w off 0 hr hm (by omega) (by simpa using k1) k2 (List.all_eq_true.1 hall)
      refine ⟨w', ?_, ⟨_, h2, h3, .lit _, fun _ => rfl⟩⟩
      simp only [Instr.storeAt, Instr.sureAddr, Sem.run_bind, Sem.run_pure, Result.andThen_ok, storeVar, run_sizeOf hti hn]
      have : ¬ (v.cells.size ≠ n) := by omega
      simp only [this, if_false]
      exact h1
    split at he
    · rename_i id off st
      cases hm : h.m (.blk id) with
      | dead => rw [hm] at he; cases he
      | map _ _ => rw [hm] at he; cases he
      | loop _ _ _ _ _ _ _ => rw [hm] at he; cases he
      | cells bs =>
        rw [hm] at he
        simp only [] at he
        split at he
        · rename_i hc
          simp only [VA] at hu
          cases hu with
          | ptr h1 h2 h3 => exact main _ bs _ off hm h3 hc.2 (by cases he; rfl) rfl
          | ptrS _ h1 h2 =>
            have := h2 bs.length (by rw [hm]; rfl)
            omega
        · cases he
    · rename_i s off
      cases hm : h.m (.box s) with
      | dead => rw [hm] at he; cases he
      | map _ _ => rw [hm] at he; cases he
      | loop _ _ _ _ _ _ _ => rw [hm] at he; cases he
      | cells bs =>
        rw [hm] at he
        simp only [] at he
        split at he
        · rename_i hc
          simp only [VA] at hu
          obtain ⟨b, h3, rfl⟩ := hu
          exact main _ bs b off hm h3 hc (by cases he; rfl) rfl
        · cases he
    · cases he
  · cases he

theorem getElem?_setAt : ∀ (ns cs : List AV) (off i : Nat), off + ns.length ≤ cs.length → (setAt cs off ns)[i]? = if off ≤ i ∧ i < off + ns.length then ns[i - off]? else cs[i]?
  | [], cs, off, i, _ => by simp [setAt]; omega
  | n :: ns, cs, off, i, hle => by
    rw [setAt, getElem?_setAt ns _ _ _ (by simp at hle ⊢; omega)]
    simp only [List.length_cons] at hle ⊢
    by_cases h1 : off + 1 ≤ i ∧ i < off + 1 + ns.length
    · rw [if_pos h1, if_pos (by omega)]
      have : i - off = (i - (off + 1)) + 1 := by omega
      rw [this]; rfl
    · rw [if_neg h1]
      by_cases h2 : i = off
      · subst h2
        rw [if_pos (by omega), List.getElem?_set_self (by omega)]
        simp
      · rw [if_neg (by omega), List.getElem?_set_ne (by omega)]

theorem foldl_setIfInBounds (us : List Value) : ∀ (arr : Array Value) (off j : Nat), off + j + us.length ≤ arr.size → ∀ i, ((us.zipIdx j).foldl (fun cs (c : Value × Nat) => cs.setIfInBounds (off + c.2) c.1) arr).size = arr.size ∧
      ((us.zipIdx j).foldl (fun cs (c : Value × Nat) => cs.setIfInBounds (off + c.2) c.1) arr)[i]? = if off + j ≤ i ∧ i < off + j + us.length then us[i - (off + j)]? else arr[i]? := by
  induction us with
  | nil => intro arr off j _ i; simp; omega
  | cons u us ih =>
    intro arr off j hle i
    simp only [List.length_cons] at hle
    rw [List.zipIdx_cons, List.foldl_cons]
    obtain ⟨h1, h2⟩ := ih (arr.setIfInBounds (off + j) u) off (j + 1) (by simp; omega) i
    refine ⟨by rw [h1]; simp, ?_⟩
    rw [h2]
    simp only [List.length_cons]
    by_cases c1 : off + (j + 1) ≤ i ∧ i < off + (j + 1) + us.length
    · rw [if_pos c1, if_pos (by omega)]
      have : i - (off + j) = (i - (off + (j + 1))) + 1 := by omega
      rw [this]; rfl
    · rw [if_neg c1]
      by_cases c2 : i = off + j
      · subst c2
        rw [if_pos (by omega), Array.getElem?_setIfInBounds_self_of_lt (by omega)]
        simp
      · rw [if_neg (by omega), Array.getElem?_setIfInBounds_ne (by omega)]

theorem aFill_sound {place : Nat → Option (Nat × Nat)} : ∀ (ps : List (Nat × AV)) (us : List (Nat × Value)) (cs cs' : List AV) (arr : Array Value), aFill place cs ps = some cs' → us.length = ps.length →
    (∀ (i : Nat) p u, ps[i]? = some p → us[i]? = some u → u.1 = p.1 ∧ V σ h w p.2 u.2) → arr.size = cs.length → ArrRel σ h w cs arr → (∀ c ∈ cs, c.one = true) →
    ∃ arr', Instr.fill place arr us = some arr' ∧ arr'.size = cs'.length ∧ cs'.length = cs.length ∧ ArrRel σ h w cs' arr' ∧ (∀ c ∈ cs', c.one = true)
  | [], us, cs, cs', arr, hf, hl, _, hs, hrel, h1 => by
    have : us = [] := List.eq_nil_of_length_eq_zero (by simpa using hl)
    subst this
    simp only [aFill, Option.some.injEq] at hf
    subst hf
    exact ⟨arr, rfl, hs, rfl, hrel, h1⟩
  | (i, x) :: ps, us, cs, cs', arr, hf, hl, hp, hs, hrel, h1 => by
    match us, hl with
    | (i', u) :: us, hl =>
      obtain ⟨he, hv⟩ := hp 0 (i, x) (i', u) rfl rfl
      simp only at he
      subst he
      simp only [aFill] at hf
      split at hf
      · cases hf
      · rename_i off size hpl
        split at hf
        · rename_i hc
          obtain ⟨c1, c2, c3⟩ := hc
          obtain ⟨r1, r2⟩ := arrRel_of hv c3
          simp only at r1 r2
          have fold := foldl_setIfInBounds u.cells.toList arr off 0 (by simp; omega)
          have hcond : ¬ (u.cells.size ≠ size ∨ off + u.cells.size > arr.size) := by omega
          have hrel' : ArrRel σ h w (setAt cs off x.cells) ((u.cells.toList.zipIdx 0).foldl (fun cs (c : Value × Nat) => cs.setIfInBounds (off + c.2) c.1) arr) := by
            intro j c hj
            rw [getElem?_setAt _ _ _ _ c2] at hj
            rw [(fold j).2]
            by_cases cc : off ≤ j ∧ j < off + x.cells.length
            · rw [if_pos cc] at hj
              obtain ⟨u', m1, m2, m3⟩ := r1 _ c hj
              refine ⟨u', ?_, m2, m3⟩
              rw [if_pos (by simp; omega)]
              simpa using m1
            · rw [if_neg cc] at hj
              rw [if_neg (by simp; omega)]
              exact hrel j c hj
          have h1' : ∀ c ∈ setAt cs off x.cells, c.one = true := by
            intro c hc
            obtain ⟨j, hj⟩ := List.mem_iff_getElem?.1 hc
            rw [getElem?_setAt _ _ _ _ c2] at hj
            split at hj
            · exact List.all_eq_true.1 c3 c (List.mem_of_getElem? hj)
            · exact h1 c (List.mem_of_getElem? hj)
          obtain ⟨arr', k1, k2, k3, k4, k5⟩ := aFill_sound ps us (setAt cs off x.cells) cs' ((u.cells.toList.zipIdx 0).foldl (fun cs (c : Value × Nat) => cs.setIfInBounds (off + c.2) c.1) arr) hf (by simpa using hl)
            (fun j p u' hj hu' => hp (j + 1) p u' (by simpa using hj) (by simpa using hu')) (by rw [(fold 0).1, length_setAt, hs]) hrel' h1'
          refine ⟨arr', ?_, k2, by rw [k3, length_setAt], k4, k5⟩
          rw [← k1]
          simp only [Instr.fill, hpl]
          rw [if_neg (by simpa using hcond), ← Array.foldl_toList, Array.toList_zipIdx]
        · cases hf

theorem zerosOf_sound {e : TypeId} {zs : List AV} (hz : zerosOf ti e = some zs) : ∃ z, ti.zero e = some z ∧ z.cells.size = zs.length ∧ (∀ (σ : Sim) (h : Hp) (w : World), ArrRel σ h w zs z.cells) ∧ (∀ c ∈ zs, c.one = true) := by
  unfold zerosOf at hz
  simp only [Option.bind_eq_bind, Option.bind_eq_some_iff] at hz
  obtain ⟨z, h1, c, h2, h3⟩ := hz
  obtain ⟨rfl, hall⟩ := cellsIn_all h3
  refine ⟨z, h1, ?_, fun σ h w => (arrRel_of (ofVal_sound h2) hall).1, List.all_eq_true.1 hall⟩
  exact (arrRel_of (σ := ⟨fun _ => none, fun _ => False⟩) (h := ⟨fun _ => .dead, fun _ => False⟩) (w := default) (ofVal_sound h2) hall).2

theorem aBuild_sound (hti : TIok P ti) {t : TypeId} {ps : List (Nat × AV)} {us : Array (Nat × Value)} {c : AV} (hb : aBuild ti t ps = some c) (hl : us.size = ps.length)
    (hp : ∀ (i : Nat) p u, ps[i]? = some p → us[i]? = some u → u.1 = p.1 ∧ V σ h w p.2 u.2) : ∃ r, (Instr.build t us).run P w = .ok r w ∧ V σ h w c r := by
  unfold aBuild at hb
  simp only [Option.bind_eq_bind, Option.bind_eq_some_iff] at hb
  obtain ⟨zs, hz, pl, hpl, cs, hcs, hb⟩ := hb
  cases hb
  obtain ⟨z, z1, z2, z3, z4⟩ := zerosOf_sound hz
  obtain ⟨arr, k1, k2, k3, k4, k5⟩ := aFill_sound (σ := σ) (h := h) (w := w) ps us.toList zs cs z.cells hcs (by simpa using hl) (fun i p u h1 h2 => hp i p u h1 (by simpa using h2)) z2 (z3 _ _ _) z4
  have hV : V σ h w (.agg cs) (.agg arr) := .agg k2 k5 fun i c u h1 h2 => by
    obtain ⟨u', m1, _, m3⟩ := k4 i c h1
    rw [m1] at h2
    cases h2
    exact m3
  refine ⟨_, ?_, hV⟩
  unfold fieldPlaces at hpl
  split at hpl
  · rename_i fs ht
    split at hpl
    · rename_i hall
      cases hpl
      have hmap : ∀ (l : List Field), (∀ f ∈ l, (ti.sz f.type).isSome) → (l.mapM (m := Sem) fun (f : Field) => do pure (f.offset, ← sizeOf f.type)).run P w = .ok (l.map fun (f : Field) => (f.offset, (ti.sz f.type).getD 0)) w := by
        intro l
        induction l with
        | nil => intro _; rfl
        | cons f l ih =>
          intro hal
          obtain ⟨n, hn⟩ := Option.isSome_iff_exists.1 (hal f (by simp))
          simp only [List.mapM_cons, Sem.run_bind, run_sizeOf hti hn, Result.andThen_ok, Sem.run_pure, ih (fun f hf => hal f (by simp [hf])), hn, List.map_cons, Option.getD_some]
      have hmap' := hmap fs.toList (fun f hf => by
        obtain ⟨i, hi, hfi⟩ := List.mem_iff_getElem.1 hf
        have := (Array.all_eq_true.1 hall) i (by simpa using hi)
        rw [← hfi]
        simpa using this)
      simp only [Instr.build, Sem.run_bind, run_zero hti z1, Result.andThen_ok, run_und hti ht]
      rw [Array.mapM_eq_mapM_toList]
      simp only [Sem.run_bind, map_eq_pure_bind, hmap', Result.andThen_ok, Sem.run_pure]
      have hpl2 : (fun (x : Nat) => ((fs.toList.map fun (f : Field) => (f.offset, (ti.sz f.type).getD 0)).toArray)[x]?) = fun (i : Nat) => (fs[i]?).map fun (f : Field) => (f.offset, (ti.sz f.type).getD 0) := by
        funext i
        simp
      rw [hpl2, k1]
      rfl
    · cases hpl
  · rename_i n e ht
    simp only [Option.map_eq_some_iff] at hpl
    obtain ⟨sz, hsz, rfl⟩ := hpl
    simp only [Instr.build, Sem.run_bind, run_zero hti z1, Result.andThen_ok, run_und hti ht, run_sizeOf hti hsz]
    rw [k1]
    rfl
  · cases hpl

theorem length_rep (n : Nat) (zs : List AV) : (rep n zs).length = n * zs.length := by
  unfold rep
  induction n with
  | zero => simp
  | succ n ih => rw [List.replicate_succ, List.flatten_cons, List.length_append, ih, Nat.succ_mul]; omega

theorem getElem?_rep (n : Nat) (zs : List AV) (i : Nat) (hi : i < n * zs.length) : (rep n zs)[i]? = zs[i % zs.length]? := by
  unfold rep
  induction n generalizing i with
  | zero => simp at hi
  | succ n ih =>
    rw [List.replicate_succ, List.flatten_cons, List.getElem?_append]
    split
    · rename_i hlt
      rw [Nat.mod_eq_of_lt hlt]
    · rename_i hge
      rw [ih (i - zs.length) (by rw [Nat.succ_mul] at hi; omega)]
      congr 1
      rw [← Nat.mod_eq_sub_mod (by omega)]

theorem mem_rep {n : Nat} {zs : List AV} {c : AV} (hc : c ∈ rep n zs) : c ∈ zs := by
  unfold rep at hc
  obtain ⟨l, h1, h2⟩ := List.mem_flatten.1 hc
  rw [List.eq_of_mem_replicate h1] at h2
  exact h2

theorem arrRel_rep {zs : List AV} {z : Array Value} (hz : z.size = zs.length) (hrel : ArrRel σ h w zs z) (n N : Nat) (hN : n * zs.length ≤ N) : ArrRel σ h w (rep n zs) ((Array.range N).map (z[· % z.size]!)) := by
  intro i c hi
  have hlt : i < n * zs.length := by
    have := (List.getElem?_eq_some_iff.1 hi).1
    rwa [length_rep] at this
  rw [getElem?_rep n zs i hlt] at hi
  obtain ⟨u, h1, h2, h3⟩ := hrel _ c hi
  refine ⟨u, ?_, h2, h3⟩
  have hi' : i < N := by omega
  have this : ((Array.range N).map (z[· % z.size]!))[i]? = some (z[i % z.size]!) := by simp [hi']
  rw [this]
  obtain ⟨h4, h5⟩ := Array.getElem?_eq_some_iff.1 h1
  have h6 : z[i % z.size]! = z[i % zs.length]'h4 := by rw [getElem!_pos z (i % z.size) (by rw [hz] at h4 ⊢; exact h4)]; congr 1; rw [hz]
  rw [h6, h5]

theorem aBuildSlice_sound (hti : TIok P ti) (hr : RH σ h w) {k : Nat} (hk : ¬ h.al k) {d : Option Nat} {t : TypeId} {len : Nat} {ps : List (Nat × AV)} {us : Array (Nat × Value)} {e : Eff} (hb : aBuildSlice ti k t len ps = some e) (hl : us.size = ps.length)
    (hp : ∀ (i : Nat) p u, ps[i]? = some p → us[i]? = some u → u.1 = p.1 ∧ V σ h w p.2 u.2) : ∃ r w', (Instr.buildSlice t len us).run P w = .ok r w' ∧ e.Leaves σ h w k d r w' := by
  unfold aBuildSlice at hb
  simp only [Option.bind_eq_bind, Option.bind_eq_some_iff] at hb
  obtain ⟨el, hel, n, hn, zs, hz, hb⟩ := hb
  split at hb
  · rename_i hc
    obtain ⟨c1, c2, c3⟩ := hc
    simp only [Option.bind_eq_some_iff] at hb
    obtain ⟨cs, hcs, hb⟩ := hb
    cases hb
    have ht := elemOf_und hel
    obtain ⟨z, z1, z2, z3, z4⟩ := zerosOf_sound hz
    obtain ⟨arr, k1, k2, k3, k4, k5⟩ := aFill_sound (σ := σ) (h := h) (w := w) ps us.toList (rep len zs) cs ((Array.range (len * n)).map (z.cells[· % z.cells.size]!)) hcs (by simpa using hl) (fun i p u h1 h2 => hp i p u h1 (by simpa using h2))
      (by simp [length_rep, c1]) (arrRel_rep z2 (z3 _ _ _) len _ (by rw [c1]; exact Nat.le_refl _)) (fun c hc => z4 c (mem_rep hc))
    have hcl : cs.length = len * n := by rw [k3, length_rep, c1]
    refine ⟨.slice (some ⟨w.heap.size, 0, none⟩) len len, w.alloc (.cells arr el), ?_, leaves_nw hr hk (by omega) k5 ⟨by omega, fun i _ => by omega⟩ k4 (fun σ' h' w' m1 m2 m3 m4 => .slc (by rw [m1, hcl]) m2 m3 m4 (Nat.le_refl _) (by omega))⟩
    simp only [Instr.buildSlice, Sem.run_bind, run_und hti ht, Result.andThen_ok, run_sizeOf hti hn]
    have hbig : ¬ (len * n > 2 ^ 24) := by omega
    by_cases h0 : len * n = 0
    · have hz0 : (Array.range (len * n)).map (z.cells[· % z.cells.size]!) = (Array.range (len * n)).map ((#[] : Array Value)[· % (#[] : Array Value).size]!) := by rw [h0]; simp
      have hbig0 : ¬ (0 > 2 ^ 24) := by omega
      simp only [h0, hbig0, if_false, if_true, Sem.run_bind, Sem.run_pure, Result.andThen_ok]
      rw [hz0, h0] at k1
      rw [k1]
      rfl
    · simp only [hbig, if_false, h0, Sem.run_bind, run_zero hti z1, Sem.run_pure, Result.andThen_ok, k1]
      rfl
  · cases hb

theorem aMake_sound (hti : TIok P ti) (hr : RH σ h w) {k : Nat} (hk : ¬ h.al k) {d : Option Nat} {t : TypeId} {x y : AV} {u v : Value} {e : Eff} (hb : aMake ti k t x y = some e) (hu : V σ h w x u) (hv : V σ h w y v) :
    ∃ r w', (Instr.makeSlice t u v).run P w = .ok r w' ∧ e.Leaves σ h w k d r w' := by
  unfold aMake at hb
  simp only [Option.bind_eq_bind, Option.bind_eq_some_iff] at hb
  obtain ⟨el, hel, n, hn, b, hbt, zs, hz, l, hl, c, hcc, hb⟩ := hb
  split at hb
  · rename_i hc
    obtain ⟨c1, c2, c3, c4, c5, c6⟩ := hc
    cases hb
    have ht := elemOf_und hel
    obtain ⟨z, z1, z2, z3, z4⟩ := zerosOf_sound hz
    obtain ⟨kl, rfl⟩ := num_sound hl hu
    obtain ⟨kc, rfl⟩ := num_sound hcc hv
    obtain ⟨i, hi1, hi2⟩ := hti.bt _ _ hbt
    have hle : l.toNat * n ≤ c.toNat * n := Nat.mul_le_mul_right _ (by omega)
    refine ⟨.slice (some ⟨w.heap.size, 0, none⟩) l.toNat c.toNat, w.alloc (.cells ((Array.range (c.toNat * n)).map (z.cells[· % z.cells.size]!)) el), ?_,
      leaves_nw hr hk (by rw [length_rep, c1]; simpa using hle) (fun c hc => z4 c (mem_rep hc)) ⟨by omega, fun i _ => by omega⟩ (arrRel_rep z2 (z3 _ _ _) _ _ (by rw [c1]; exact hle))
        (fun σ' h' w' m1 m2 m3 m4 => .slc (by rw [m1, length_rep, c1]) m2 m3 m4 (by omega) (by simp))⟩
    have wl : IntKind.i64.wrap l = l := IntWalk.i64_in _ ⟨by omega, by omega⟩
    have wc : IntKind.i64.wrap c = c := IntWalk.i64_in _ ⟨by omega, by omega⟩
    have f1 : ¬ (c < 0) := by omega
    have f2 : ¬ ((b : Int) * c > 2 ^ 48) := by
      have : ((2 : Int) ^ 48) = 281474976710656 := by decide
      omega
    have f3 : ¬ (l < 0) := by omega
    have f4 : ¬ (l > c) := by omega
    simp only [Instr.makeSlice, Sem.run_bind, run_und hti ht, Result.andThen_ok, asInt, asIntOf, Sem.run_pure, typeInfo, run_program, hi1, wl, wc, hi2, f1, f2, f3, f4, decide_false, Bool.or_false, Bool.false_eq_true, if_false, run_askRoom, run_sizeOf hti hn]
    by_cases h0 : c.toNat * n = 0
    · have hr0 : Array.range 0 = #[] := rfl
      simp [h0, newRow, hr0]
    · simp [h0, newRow, run_zero hti z1]
  · cases hb
end
end Go.Proofs.Ytmmabdpmeijgmaa.AM
