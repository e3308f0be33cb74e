/- What the operations of a region do to abstract values and places. -/
import Derived.Test.YtmmabdpmeijgmaaA3
import Derived.Laws.StructEq
namespace Go.Proofs.Ytmmabdpmeijgmaa.AM
open Go

/-- What is known of the program's types. -/
structure TI where
  und : TypeId → Option TypeDesc
  sz : TypeId → Option Nat
  bt : TypeId → Option Nat
  zero : TypeId → Option Value
  sfs : TypeId → Option (List (TypeId × Nat))
  sar : TypeId → Option (Nat × TypeId)

structure TIok (P : Program) (ti : TI) : Prop where
  und : ∀ t d, ti.und t = some d → P.underlying t = some d
  sz : ∀ t n, ti.sz t = some n → ∃ i, P.info? t = some i ∧ i.size = n
  bt : ∀ t n, ti.bt t = some n → ∃ i, P.info? t = some i ∧ i.bytes = n
  zero : ∀ t v, ti.zero t = some v → ∃ i, P.info? t = some i ∧ i.zero = some v
  sfs : ∀ t l, ti.sfs t = some l → P.underlying t = some (.struct (P.fieldsOf t)) ∧ l = (P.fieldsOf t).toList.map (fun f => (f.type, f.offset)) ∧ (∀ f ∈ (P.fieldsOf t).toList, f.name ≠ "_") ∧ P.stoodInHeld t = false ∧ P.eqGuardType P.depth t = false
  sar : ∀ t n e, ti.sar t = some (n, e) → P.underlying t = some (.array n e) ∧ P.eqGuardType P.depth t = false

def TI.agg (ti : TI) (t : TypeId) : Option Bool :=
  match ti.und t with
  | some (.struct _) => some true
  | some (.array _ _) => some true
  | some _ => some false
  | none => none

/-- A value that stands in the text. -/
def ofVal : Value → Option AV
  | .agg cs => if cs.all Value.oneCell' then some (.agg (cs.toList.map .lit)) else none
  | .tuple _ => none
  | v => some (.lit v)

/-- The value of an operand. -/
def evT (tmps : List AV) : Operand → Option AV
  | .tmp t => match tmps[t]? with
    | some (.lbox _) => none
    | some (.lptr _ _) => none
    | some .dead => none
    | some v => some v
    | none => none
  | .const v => ofVal v
  | .func f => some (.fn (.func f) [] [])
  | .global _ => none

/-- The value of an operand that serves as an address. -/
def evA (tmps : List AV) : Operand → Option AV
  | .tmp t => match tmps[t]? with
    | some (.lbox _) => some (.lptr t 0)
    | some (.lptr s o) => some (.lptr s o)
    | some (.ptr i o s) => some (.ptr i o s)
    | some (.rptr cs) => some (.rptr cs)
    | _ => none
  | _ => none

/-- What an operation does: a value; a place written; a new block; a variable of the frame's own. -/
inductive Eff where
  | val (v : AV) (rd : List Loc)
  | wr (v : AV) (rd : List Loc) (l : Loc) (o : AObj)
  | nw (v : AV) (rd : List Loc) (o : AObj)
  | bx (cs : List AV)

def Eff.v : Eff → AV
  | .val v _ => v
  | .wr v _ _ _ => v
  | .nw v _ _ => v
  | .bx cs => .lbox cs

/-- n cells at an address. -/
def cellsAt (m : Loc → AObj) (ad : AV) (n : Nat) : Option (List AV × List Loc) :=
  match ad with
  | .rptr cs => if n ≤ cs.length then some (cs.take n, []) else none
  | .ptr id off st => match m (.blk id) with
    | .cells cs => if cs.length = st ∧ off + n ≤ cs.length then some ((cs.drop off).take n, [.blk id]) else none
    | _ => none
  | .lptr t off => match m (.box t) with
    | .cells cs => if off + n ≤ cs.length then some ((cs.drop off).take n, [.box t]) else none
    | _ => none
  | _ => none

def valOf (agg : Bool) (cs : List AV) : Option AV :=
  if agg then some (.agg cs) else match cs with
    | [c] => some c
    | _ => none

def aLoad (ti : TI) (m : Loc → AObj) (t : TypeId) (ad : AV) : Option Eff := do
  let g ← ti.agg t
  let n ← ti.sz t
  let (cs, rd) ← cellsAt m ad n
  let v ← valOf g cs
  some (.val v rd)

def undefAV : AV := .lit undef

def aStore (ti : TI) (m : Loc → AObj) (t : TypeId) (ad x : AV) : Option Eff := do
  let n ← ti.sz t
  if x.cells.length = n ∧ x.cells.all AV.one = true then
    match ad with
    | .ptr id off st => match m (.blk id) with
      | .cells cs => if cs.length = st ∧ off + n ≤ cs.length then some (.wr undefAV [.blk id] (.blk id) (.cells (setAt cs off x.cells))) else none
      | _ => none
    | .lptr t off => match m (.box t) with
      | .cells cs => if off + n ≤ cs.length then some (.wr undefAV [.box t] (.box t) (.cells (setAt cs off x.cells))) else none
      | _ => none
    | _ => none
  else none

/-- The relation between a frame and its abstract slots. -/
def VT (σ : Sim) (h : Hp) (w : World) (t : Nat) (c : AV) (u : Value) : Prop :=
  match c with
  | .lbox _ => ∃ b, σ.ρ (.box t) = some b ∧ u = .pointer (some ⟨b, 0, none⟩)
  | .lptr s off => ∃ b, σ.ρ (.box s) = some b ∧ u = .pointer (some ⟨b, off, none⟩)
  | c => V σ h w c u

def boxOf (tmps : List AV) (t : Nat) : AObj :=
  match tmps[t]? with
  | some (.lbox cs) => .cells cs
  | _ => .dead

structure RF (σ : Sim) (h : Hp) (w : World) (tmps : List AV) (a : Act) : Prop where
  heap : RH σ h w
  box : ∀ t, h.m (.box t) = boxOf tmps t
  len : a.tmps.size = tmps.length
  val : ∀ (t : Nat) c u, tmps[t]? = some c → a.tmps[t]? = some u → VT σ h w t c u

section
variable {σ σ' : Sim} {h h' : Hp} {w w' : World} {P : Program} {ti : TI} {tmps : List AV} {a : Act}

theorem getD_of {t : Nat} {u : Value} (h : a.tmps[t]? = some u) : a.tmps.getD t undef = u := by
  rw [← Array.getElem?_eq_some_iff.1 h |>.2]
  have := (Array.getElem?_eq_some_iff.1 h).1
  simp [Array.getD, this]

theorem RF.at_ (hr : RF σ h w tmps a) {t : Nat} {c : AV} (ht : tmps[t]? = some c) : ∃ u, a.tmps[t]? = some u ∧ a.eval (.tmp t) = u ∧ VT σ h w t c u := by
  have hlt : t < tmps.length := (List.getElem?_eq_some_iff.1 ht).1
  have h2 : a.tmps[t]? = some (a.tmps[t]'(by rw [hr.len]; exact hlt)) := Array.getElem?_eq_getElem _
  exact ⟨_, h2, getD_of h2, hr.val t c _ ht h2⟩

theorem ofVal_sound {v : Value} {c : AV} (hc : ofVal v = some c) : V σ h w c v := by
  cases v with
  | agg cs =>
    simp only [ofVal] at hc
    split at hc
    · rename_i hall
      cases hc
      refine .agg (by simp) (fun c hc => ?_) (fun i c u hi hu => ?_)
      · obtain ⟨v, hv, rfl⟩ := List.mem_map.1 hc
        obtain ⟨i, hi, hvi⟩ := List.mem_iff_getElem.1 hv
        have := (Array.all_eq_true.1 hall) i (by simpa using hi)
        rw [← hvi]
        simpa [AV.one] using this
      · rw [List.getElem?_map, Array.getElem?_toList, hu] at hi
        cases hi
        exact .lit _
    · cases hc
  | tuple _ => simp [ofVal] at hc
  | _ => simp only [ofVal] at hc; cases hc; exact .lit _

theorem evT_sound (hr : RF σ h w tmps a) {x : Operand} {c : AV} (hx : evT tmps x = some c) : V σ h w c (a.eval x) := by
  cases x with
  | tmp t =>
    simp only [evT] at hx
    cases ht : tmps[t]? with
    | none => rw [ht] at hx; cases hx
    | some c' =>
      rw [ht] at hx
      obtain ⟨u, _, h6, h7⟩ := hr.at_ ht
      rw [h6]
      cases c' <;> simp only [] at hx <;> first
        | (cases hx; exact h7)
        | cases hx
  | const v => exact ofVal_sound hx
  | func f =>
    simp only [evT] at hx
    cases hx
    exact .fn rfl rfl (by simp) (by simp)
  | global g => simp [evT] at hx

/-- An address tells an address. -/
def VA (σ : Sim) (h : Hp) (w : World) (c : AV) (u : Value) : Prop :=
  match c with
  | .lptr s off => ∃ b, σ.ρ (.box s) = some b ∧ u = .pointer (some ⟨b, off, none⟩)
  | c => V σ h w c u

theorem evA_sound (hr : RF σ h w tmps a) {x : Operand} {c : AV} (hx : evA tmps x = some c) : VA σ h w c (a.eval x) := by
  cases x with
  | tmp t =>
    simp only [evA] at hx
    cases ht : tmps[t]? with
    | none => rw [ht] at hx; cases hx
    | some c' =>
      rw [ht] at hx
      obtain ⟨u, _, h6, h7⟩ := hr.at_ ht
      rw [h6]
      cases c' <;> simp only [] at hx <;> first
        | (cases hx; exact h7)
        | cases hx
  | _ => simp [evA] at hx

theorem run_sizeOf {t : TypeId} {n : Nat} (hti : TIok P ti) (hs : ti.sz t = some n) (w : World) : (sizeOf t).run P w = .ok n w := by
  obtain ⟨i, h1, h2⟩ := hti.sz t n hs
  simp [sizeOf, typeInfo, h1, h2]
theorem run_und {t : TypeId} {d : TypeDesc} (hti : TIok P ti) (hs : ti.und t = some d) (w : World) : (underlying t).run P w = .ok d w := by
  simp [underlying, hti.und t d hs]
theorem run_zero {t : TypeId} {v : Value} (hti : TIok P ti) (hs : ti.zero t = some v) (w : World) : (zeroValue t).run P w = .ok v w := by
  obtain ⟨i, h1, h2⟩ := hti.zero t v hs
  simp [zeroValue, typeInfo, h1, h2]
theorem run_isAgg {t : TypeId} {g : Bool} (hti : TIok P ti) (hs : ti.agg t = some g) (w : World) : (isAgg t).run P w = .ok g w := by
  unfold TI.agg at hs
  cases hu : ti.und t with
  | none => rw [hu] at hs; cases hs
  | some d =>
    rw [hu] at hs
    simp only [isAgg, Sem.run_bind, run_und hti hu, Result.andThen_ok]
    cases d <;> simp only [Option.some.injEq] at hs <;> subst hs <;> rfl

theorem cellsAt_sound (hr : RH σ h w) {ad : AV} {n : Nat} {cs : List AV} {rd : List Loc} {u : Value} (hc : cellsAt h.m ad n = some (cs, rd)) (hv : VA σ h w ad u) :
    ∃ (ar : Addr) (us : Nat → Value), u = .pointer (some ar) ∧ cs.length = n ∧ (∀ i c, cs[i]? = some c → w.cell? (ar.add i) = some (us i) ∧ (us i).oneCell' = true ∧ c.one = true ∧ V σ h w c (us i)) := by
  have live : ∀ (l : Loc) (bs : List AV) (b off : Nat), h.m l = .cells bs → σ.ρ l = some b → off + n ≤ bs.length → cs = (bs.drop off).take n →
      ∃ (ar : Addr) (us : Nat → Value), Value.pointer (some ⟨b, off, none⟩) = .pointer (some ar) ∧ cs.length = n ∧ (∀ i c, cs[i]? = some c → w.cell? (ar.add i) = some (us i) ∧ (us i).oneCell' = true ∧ c.one = true ∧ V σ h w c (us i)) := by
    intro l bs b off hl hb hle hcs
    refine ⟨⟨b, off, none⟩, fun i => (w.cell? ⟨b, off + i, none⟩).getD undef, rfl, by rw [hcs]; simp; omega, fun i c hi => ?_⟩
    subst hcs
    have hin : i < n := by
      have := (List.getElem?_eq_some_iff.1 hi).1
      simp at this
      omega
    rw [List.getElem?_take_of_lt hin, List.getElem?_drop] at hi
    obtain ⟨u', h1, h2, h3⟩ := hr.load hl hb hi
    obtain ⟨_, _, _, _, _, _, _, _, _, h4, _⟩ := hr.cells hl
    have hu : (w.cell? ⟨b, off + i, none⟩).getD undef = u' := by rw [h1]; rfl
    exact ⟨by rw [add_of, h1]; exact congrArg some hu.symm, by simp only [hu]; exact h2, h4 c (List.mem_of_getElem? hi), by simp only [hu]; exact h3⟩
  cases ad with
  | ptr id off st =>
    simp only [cellsAt] at hc
    cases hm : h.m (.blk id) with
    | cells bs =>
      rw [hm] at hc
      simp only [] at hc
      split at hc
      · rename_i hcond
        cases hc
        simp only [VA] at hv
        cases hv with
        | ptr hs ha hb => exact live _ bs _ off hm hb hcond.2 rfl
        | ptrS _ ha hs =>
          have := hs bs.length (by rw [hm]; rfl)
          omega
      · cases hc
    | dead => rw [hm] at hc; cases hc
    | map _ _ => rw [hm] at hc; cases hc
    | loop _ _ _ _ _ _ _ => rw [hm] at hc; cases hc
  | rptr bs =>
    simp only [cellsAt] at hc
    split at hc
    · rename_i hle
      cases hc
      simp only [VA] at hv
      cases hv with
      | rptr vs hsp hF h1 h2 h3 h4 =>
        refine ⟨_, vs, rfl, by simp; omega, fun i c hi => ?_⟩
        have hin : i < n := by
          have := (List.getElem?_eq_some_iff.1 hi).1
          simp at this
          omega
        rw [List.getElem?_take_of_lt hin] at hi
        have ho := h1 c (List.mem_of_getElem? hi)
        exact ⟨h2 i c hi, (h3 i c hi).one ho, ho, h3 i c hi⟩
    · cases hc
  | lptr t off =>
    simp only [cellsAt] at hc
    cases hm : h.m (.box t) with
    | cells bs =>
      rw [hm] at hc
      simp only [] at hc
      split at hc
      · rename_i hcond
        cases hc
        simp only [VA] at hv
        obtain ⟨b, hb, rfl⟩ := hv
        exact live _ bs b off hm hb hcond rfl
      · cases hc
    | dead => rw [hm] at hc; cases hc
    | map _ _ => rw [hm] at hc; cases hc
    | loop _ _ _ _ _ _ _ => rw [hm] at hc; cases hc
  | _ => simp [cellsAt] at hc

theorem run_loadCells_of {ar : Addr} {cs : List AV} {us : Nat → Value} (hc : ∀ i c, cs[i]? = some c → w.cell? (ar.add i) = some (us i)) :
    (loadCells ar cs.length).run P w = .ok ((List.range cs.length).map us).toArray w := by
  have := run_loadCells (P := P) (w := w) ar cs.length us (fun j hj => hc j _ (List.getElem?_eq_getElem hj))
  rw [this]

theorem V_agg {cs : List AV} {us : Nat → Value} (hv : ∀ i c, cs[i]? = some c → c.one = true ∧ V σ h w c (us i)) : V σ h w (.agg cs) (.agg ((List.range cs.length).map us).toArray) := by
  refine .agg (by simp) (fun c hc => ?_) (fun i c u hi hu => ?_)
  · obtain ⟨i, hi⟩ := List.mem_iff_getElem?.1 hc
    exact (hv i c hi).1
  · have hlt := (List.getElem?_eq_some_iff.1 hi).1
    simp [hlt] at hu
    rw [← hu]
    exact (hv i c hi).2

/-- A variable is read. -/
theorem aLoad_sound (hti : TIok P ti) (hr : RH σ h w) {t : TypeId} {ad : AV} {e : Eff} {u : Value} (he : aLoad ti h.m t ad = some e) (hv : VA σ h w ad u) :
    ∃ v, (Instr.loadAt t u).run P w = .ok v w ∧ V σ h w e.v v := by
  unfold aLoad at he
  simp only [Option.bind_eq_bind, Option.bind_eq_some_iff, Prod.exists] at he
  obtain ⟨g, hg, n, hn, cs, rd, hcs, v, hval, he⟩ := he
  cases he
  obtain ⟨ar, us, rfl, hlen, hall⟩ := cellsAt_sound hr hcs hv
  simp only [Instr.loadAt, Instr.sureAddr, Sem.run_bind, Sem.run_pure, Result.andThen_ok, loadVar, run_isAgg hti hg]
  cases g with
  | true =>
    simp only [valOf, if_true] at hval
    cases hval
    simp only [if_true, Sem.run_bind, run_sizeOf hti hn, Result.andThen_ok]
    rw [← hlen, run_loadCells_of (fun i c hi => (hall i c hi).1)]
    exact ⟨_, rfl, V_agg fun i c hi => ⟨(hall i c hi).2.2.1, (hall i c hi).2.2.2⟩⟩
  | false =>
    simp only [valOf, Bool.false_eq_true, if_false] at hval
    split at hval
    · rename_i c
      cases hval
      have h0 := hall 0 v rfl
      refine ⟨us 0, ?_, h0.2.2.2⟩
      have ha : ar.add 0 = ar := by simp [Addr.add]
      rw [ha] at h0
      simp [h0.1]
    · cases hval

theorem cells_rel {x : AV} {u : Value} (hv : V σ h w x u) (h1 : x.cells.all AV.one = true) : u.cells.size = x.cells.length ∧ ∀ (i : Nat) c v, x.cells[i]? = some c → u.cells.toList[i]? = some v → V σ h w c v := by
  have hall := List.all_eq_true.1 h1
  cases hv with
  | agg hl _ hv => exact ⟨by simpa [Value.cells, AV.cells] using hl, fun i c v hi hu => hv i c v hi (by simpa [Value.cells] using hu)⟩
  | tup hl hv => simp [AV.cells, AV.one] at h1
  | dead u => simp [AV.cells, AV.one] at h1
  | lit =>
    simp [AV.cells, AV.one] at h1
    have hvc : u.cells = #[u] := by cases u <;> simp_all [Value.cells, Value.oneCell']
    rw [hvc]
    refine ⟨by simp [AV.cells], fun i c v' hi hu => ?_⟩
    match i with
    | 0 => simp [AV.cells] at hi hu; subst hi hu; exact .lit _
    | i + 1 => simp [AV.cells] at hi
  | ptrS hu ha hs =>
    rename_i id off st
    have hvc : u.cells = #[u] := by cases u <;> simp_all [Value.cells, Value.oneCell']
    rw [hvc]
    refine ⟨by simp [AV.cells], fun i c v' hi hu' => ?_⟩
    match i with
    | 0 => simp [AV.cells] at hi hu'; subst hi hu'; exact .ptrS hu ha hs
    | i + 1 => simp [AV.cells] at hi
  | slcS hu ha hs =>
    have hvc : u.cells = #[u] := by cases u <;> simp_all [Value.cells, Value.oneCell']
    rw [hvc]
    refine ⟨by simp [AV.cells], fun i c v' hi hu' => ?_⟩
    match i with
    | 0 => simp [AV.cells] at hi hu'; subst hi hu'; exact .slcS hu ha hs
    | i + 1 => simp [AV.cells] at hi
  | mapS hu ha hs =>
    have hvc : u.cells = #[u] := by cases u <;> simp_all [Value.cells, Value.oneCell']
    rw [hvc]
    refine ⟨by simp [AV.cells], fun i c v' hi hu' => ?_⟩
    match i with
    | 0 => simp [AV.cells] at hi hu'; subst hi hu'; exact .mapS hu ha hs
    | i + 1 => simp [AV.cells] at hi
  | ptr hs ha hr =>
    refine ⟨by simp [AV.cells, Value.cells], fun i c v' hi hu' => ?_⟩
    match i with
    | 0 => simp [AV.cells, Value.cells] at hi hu'; subst hi hu'; exact .ptr hs ha hr
    | i + 1 => simp [AV.cells] at hi
  | rptr vs k1 k2 k3 k4 k5 k6 =>
    refine ⟨by simp [AV.cells, Value.cells], fun i c v' hi hu' => ?_⟩
    match i with
    | 0 => simp [AV.cells, Value.cells] at hi hu'; subst hi hu'; exact .rptr vs k1 k2 k3 k4 k5 k6
    | i + 1 => simp [AV.cells] at hi
  | slc k1 k2 k3 k4 k5 k6 =>
    refine ⟨by simp [AV.cells, Value.cells], fun i c v' hi hu' => ?_⟩
    match i with
    | 0 => simp [AV.cells, Value.cells] at hi hu'; subst hi hu'; exact .slc k1 k2 k3 k4 k5 k6
    | i + 1 => simp [AV.cells] at hi
  | rslc vs k1 k2 k3 k4 k5 k6 k7 =>
    refine ⟨by simp [AV.cells, Value.cells], fun i c v' hi hu' => ?_⟩
    match i with
    | 0 => simp [AV.cells, Value.cells] at hi hu'; subst hi hu'; exact .rslc vs k1 k2 k3 k4 k5 k6 k7
    | i + 1 => simp [AV.cells] at hi
  | rslc0 =>
    refine ⟨by simp [AV.cells, Value.cells], fun i c v' hi hu' => ?_⟩
    match i with
    | 0 => simp [AV.cells, Value.cells] at hi hu'; subst hi hu'; exact .rslc0
    | i + 1 => simp [AV.cells] at hi
  | z0 =>
    refine ⟨by simp [AV.cells, Value.cells], fun i c v' hi hu' => ?_⟩
    match i with
    | 0 => simp [AV.cells, Value.cells] at hi hu'; subst hi hu'; exact .z0
    | i + 1 => simp [AV.cells] at hi
  | map k1 k2 k3 =>
    refine ⟨by simp [AV.cells, Value.cells], fun i c v' hi hu' => ?_⟩
    match i with
    | 0 => simp [AV.cells, Value.cells] at hi hu'; subst hi hu'; exact .map k1 k2 k3
    | i + 1 => simp [AV.cells] at hi
  | yldS hu ha hs =>
    have hvc : u.cells = #[u] := by cases u <;> simp_all [Value.cells, Value.oneCell']
    rw [hvc]
    refine ⟨by simp [AV.cells], fun i c v' hi hu' => ?_⟩
    match i with
    | 0 => simp [AV.cells] at hi hu'; subst hi hu'; exact .yldS hu ha hs
    | i + 1 => simp [AV.cells] at hi
  | yld k1 k2 k3 =>
    refine ⟨by simp [AV.cells, Value.cells], fun i c v' hi hu' => ?_⟩
    match i with
    | 0 => simp [AV.cells, Value.cells] at hi hu'; subst hi hu'; exact .yld k1 k2 k3
    | i + 1 => simp [AV.cells] at hi
  | fn k1 k2 k3 k4 =>
    refine ⟨by simp [AV.cells, Value.cells], fun i c v' hi hu' => ?_⟩
    match i with
    | 0 => simp [AV.cells, Value.cells] at hi hu'; subst hi hu'; exact .fn k1 k2 k3 k4
    | i + 1 => simp [AV.cells] at hi
  | ifc k1 =>
    refine ⟨by simp [AV.cells, Value.cells], fun i c v' hi hu' => ?_⟩
    match i with
    | 0 => simp [AV.cells, Value.cells] at hi hu'; subst hi hu'; exact .ifc k1
    | i + 1 => simp [AV.cells] at hi
end
end Go.Proofs.Ytmmabdpmeijgmaa.AM
