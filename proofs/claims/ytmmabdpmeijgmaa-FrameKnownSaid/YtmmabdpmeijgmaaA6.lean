/- Elements, slices, rows: indexing, cutting, making, appending. -/
import Derived.Test.YtmmabdpmeijgmaaA5
import Derived.Laws.Append
namespace Go.Proofs.Ytmmabdpmeijgmaa.AM
open Go

def elemOf (ti : TI) (t : TypeId) : Option TypeId :=
  match ti.und t with
  | some (.slice e) => some e
  | _ => none
def arrOf (ti : TI) (t : TypeId) : Option (Nat × TypeId) :=
  match ti.und t with
  | some (.array n e) => some (n, e)
  | _ => none
def isStr (ti : TI) (t : TypeId) : Bool :=
  match ti.und t with
  | some .string => true
  | _ => false

theorem elemOf_und {ti : TI} {t e : TypeId} (h : elemOf ti t = some e) : ti.und t = some (.slice e) := by
  unfold elemOf at h; split at h <;> simp_all
theorem arrOf_und {ti : TI} {t e : TypeId} {n : Nat} (h : arrOf ti t = some (n, e)) : ti.und t = some (.array n e) := by
  unfold arrOf at h; split at h <;> simp_all
theorem isStr_und {ti : TI} {t : TypeId} (h : isStr ti t = true) : ti.und t = some .string := by
  unfold isStr at h; split at h <;> simp_all

def AV.num : AV → Option Int
  | .lit (.int _ n) => some n
  | _ => none

/-- The place of a slice's element. -/
def aIndexSl (ti : TI) (m : Loc → AObj) (t : TypeId) (x ix : AV) : Option AV := do
  let e ← elemOf ti t
  let n ← ti.sz e
  let i ← ix.num
  match x with
  | .slc id off len esz st => if 0 ≤ i ∧ i < len ∧ esz = n ∧ (m (.blk id)).stamp = some st then some (.ptr id (off + i.toNat * n) st) else none
  | .rslc esz es => if 0 ≤ i ∧ esz = n then (es[i.toNat]?).map .rptr else none
  | _ => none

def aIndexArr (ti : TI) (m : Loc → AObj) (t : TypeId) (x ix : AV) : Option AV := do
  let (len, e) ← arrOf ti t
  let n ← ti.sz e
  let i ← ix.num
  if 0 ≤ i ∧ i < len ∧ alive m x = true then x.shift (i.toNat * n) else none

/-- An element of an array that is a value, or a byte of a string. -/
def aIndex (ti : TI) (t : TypeId) (x ix : AV) : Option AV :=
  match x, ix.num with
  | .agg cs, some i => do
    let (len, e) ← arrOf ti t
    let n ← ti.sz e
    if 0 ≤ i ∧ i < len then aPart ti e cs (i.toNat * n) else none
  | .lit (.string s), some i => if isStr ti t ∧ 0 ≤ i then (s.data[i.toNat]?).map fun b => .lit (.int .u8 b.toNat) else none
  | _, _ => none

def bound? : Option AV → Option (Option Int)
  | none => some none
  | some x => x.num.map some

/-- A cut. -/
def aSliceOp (ti : TI) (m : Loc → AObj) (t : TypeId) (x : AV) (lo hi mx : Option AV) : Option AV := do
  let l ← bound? lo
  let h ← bound? hi
  let c ← bound? mx
  match x with
  | .lit (.string s) =>
    let L := l.getD 0
    let H := h.getD s.size
    if isStr ti t ∧ c = none ∧ 0 ≤ L ∧ L ≤ H ∧ H ≤ s.size then some (.lit (.string (s.extract L.toNat H.toNat))) else none
  | .lit (.slice none 0 0) =>
    if ((elemOf ti t).bind ti.sz).isSome ∧ l.getD 0 = 0 ∧ h.getD 0 = 0 ∧ c.getD 0 = 0 ∧ (c.isSome → h.isSome) then some (.lit (.slice none 0 0)) else none
  | .z0 => if ((elemOf ti t).bind ti.sz).isSome ∧ l.getD 0 = 0 ∧ h.getD 0 = 0 ∧ c.getD 0 = 0 ∧ (c.isSome → h.isSome) then some .z0 else none
  | .slc id off len esz st => do
    let e ← elemOf ti t
    let n ← ti.sz e
    if (m (.blk id)).stamp = some st ∧ esz = n then
      match c with
      | some 0 => if l.getD 0 = 0 ∧ h = some 0 then some .z0 else none
      | some _ => none
      | none =>
        let L := l.getD 0
        let H := h.getD len
        if 0 ≤ L ∧ L ≤ H ∧ H ≤ len then
          if L = H then some (.rslc esz []) else some (.slc id (off + L.toNat * n) (H - L).toNat esz st)
        else none
    else none
  | .rslc esz es => do
    let e ← elemOf ti t
    let n ← ti.sz e
    if esz = n then
      match c with
      | some 0 => if l.getD 0 = 0 ∧ h = some 0 then some .z0 else none
      | some _ => none
      | none =>
        let L := l.getD 0
        let H := h.getD es.length
        if 0 ≤ L ∧ L ≤ H ∧ H ≤ es.length then some (.rslc esz ((es.drop L.toNat).take (H - L).toNat)) else none
    else none
  | _ => none

/-- A cut of an array variable. -/
def aSliceArr (ti : TI) (m : Loc → AObj) (t : TypeId) (x : AV) (lo hi : Option AV) : Option AV := do
  let (len, e) ← arrOf ti t
  let n ← ti.sz e
  let l ← bound? lo
  let h ← bound? hi
  let L := l.getD 0
  let H := h.getD len
  match x with
  | .ptr id off st =>
    match m (.blk id) with
    | .cells cs => if cs.length = st ∧ off + len * n ≤ st ∧ 0 ≤ L ∧ L < H ∧ H ≤ len then some (.slc id (off + L.toNat * n) (H - L).toNat n st) else none
    | _ => none
  | _ => none

def aExtract (x : AV) (i : Nat) : Option AV :=
  match x with
  | .tup vs => vs[i]?
  | _ => none

section
variable {σ σ' : Sim} {h h' : Hp} {w w' : World} {P : Program} {ti : TI} {tmps : List AV} {a : Act}

theorem num_sound {x : AV} {i : Int} {u : Value} (hn : x.num = some i) (hu : V σ h w x u) : ∃ k, u = .int k i := by
  unfold AV.num at hn
  split at hn
  · cases hn
    cases hu
    exact ⟨_, rfl⟩
  · cases hn

theorem add_add (a : Addr) (i j : Nat) : (a.add i).add j = a.add (i + j) := by
  unfold Addr.add
  by_cases hi : i = 0 <;> by_cases hj : j = 0 <;> simp [hi, hj, Nat.add_assoc]

theorem aIndexSl_sound (hti : TIok P ti) {t : TypeId} {x ix c : AV} {u v : Value} (hx : aIndexSl ti h.m t x ix = some c) (hu : V σ h w x u) (hv : V σ h w ix v) :
    ∃ r, (Instr.indexAt t u v).run P w = .ok r w ∧ V σ h w c r := by
  unfold aIndexSl at hx
  simp only [Option.bind_eq_bind, Option.bind_eq_some_iff] at hx
  obtain ⟨e, he, n, hn, i, hi, hx⟩ := hx
  obtain ⟨k, rfl⟩ := num_sound hi hv
  have ht := elemOf_und he
  split at hx
  · rename_i id off len esz st
    split at hx
    · rename_i hc
      obtain ⟨h0, h1, rfl, hs⟩ := hc
      cases hx
      cases hu with
      | slc k1 k2 k3 k4 k5 k6 =>
        refine ⟨_, ?_, .ptr hs k2 k3⟩
        simp only [Instr.indexAt, asIntOf, Sem.run_bind, Sem.run_pure, Result.andThen_ok, run_und hti ht]
        simp [h0, h1, run_sizeOf hti hn, add_of]
      | slcS k1 k2 k3 =>
        have := k3 st hs
        omega
    · cases hx
  · rename_i esz es
    split at hx
    · rename_i hc
      obtain ⟨h0, rfl⟩ := hc
      simp only [Option.map_eq_some_iff] at hx
      obtain ⟨el, hel, rfl⟩ := hx
      have hlt := (List.getElem?_eq_some_iff.1 hel).1
      cases hu with
      | rslc vs hsp hF h1 hlc hc hv' hz =>
        refine ⟨_, ?_, .rptr (fun j => vs i.toNat j) (spot_add _ (i.toNat * esz) hsp) (by rw [block_add]; exact hF) (h1 el (List.mem_of_getElem? hel)).2 (fun j c hj => ?_) (fun j c hj => hv' i.toNat el hel j c hj) (hz el (List.mem_of_getElem? hel))⟩
        · simp only [Instr.indexAt, asIntOf, Sem.run_bind, Sem.run_pure, Result.andThen_ok, run_und hti ht]
          have : i < (es.length : Int) := by omega
          simp [h0, this, run_sizeOf hti hn]
        · rw [add_add]
          exact hc i.toNat el hel j c hj
      | rslc0 => simp at hlt
    · cases hx
  · cases hx

theorem aIndexArr_sound (hti : TIok P ti) {t : TypeId} {x ix c : AV} {u v : Value} (hx : aIndexArr ti h.m t x ix = some c) (hu : VA σ h w x u) (hv : V σ h w ix v) :
    ∃ r, (Instr.indexAt t u v).run P w = .ok r w ∧ VA σ h w c r := by
  unfold aIndexArr at hx
  simp only [Option.bind_eq_bind, Option.bind_eq_some_iff, Prod.exists] at hx
  obtain ⟨len, e, he, n, hn, i, hi, hx⟩ := hx
  obtain ⟨k, rfl⟩ := num_sound hi hv
  have ht := arrOf_und he
  split at hx
  · rename_i hc
    obtain ⟨h0, h1, hal⟩ := hc
    obtain ⟨ar, rfl, k1⟩ := shift_sound hx hu (fun id off st he => by subst he; simpa [alive] using hal)
    refine ⟨_, ?_, k1⟩
    simp only [Instr.indexAt, asIntOf, Sem.run_bind, Sem.run_pure, Result.andThen_ok, run_und hti ht, Instr.sureAddr]
    simp [h0, h1, run_sizeOf hti hn]
  · cases hx

theorem aIndex_sound (hti : TIok P ti) {t : TypeId} {x ix c : AV} {u v : Value} (hx : aIndex ti t x ix = some c) (hu : V σ h w x u) (hv : V σ h w ix v) :
    ∃ r, (Instr.index t u v).run P w = .ok r w ∧ V σ h w c r := by
  unfold aIndex at hx
  split at hx
  · rename_i cs i hi
    simp only [Option.bind_eq_bind, Option.bind_eq_some_iff, Prod.exists] at hx
    obtain ⟨len, e, he, n, hn, hx⟩ := hx
    obtain ⟨k, rfl⟩ := num_sound hi hv
    have ht := arrOf_und he
    split at hx
    · rename_i hc
      cases hu with
      | agg hl h1 hv' =>
        obtain ⟨r, k1, k2⟩ := aPart_sound hti hx hl h1 hv'
        refine ⟨r, ?_, k2⟩
        simp only [Instr.index, asIntOf, Sem.run_bind, Sem.run_pure, Result.andThen_ok, run_und hti ht]
        simp [hc, run_sizeOf hti hn, k1]
    · cases hx
  · rename_i s i hi
    split at hx
    · rename_i hc
      simp only [Option.map_eq_some_iff] at hx
      obtain ⟨b, hb, rfl⟩ := hx
      obtain ⟨k, rfl⟩ := num_sound hi hv
      have ht := isStr_und hc.1
      cases hu
      refine ⟨_, ?_, .lit _⟩
      have hs : s[i.toNat]? = some b := by
        have hlt := (Array.getElem?_eq_some_iff.1 hb)
        obtain ⟨h1, h2⟩ := hlt
        have : s[i.toNat]? = some (s[i.toNat]'h1) := by simp [getElem?_def]; exact h1
        rw [this]
        exact congrArg some h2
      simp only [Instr.index, asIntOf, Sem.run_bind, Sem.run_pure, Result.andThen_ok, run_und hti ht]
      simp [hc.2, hs]
    · cases hx
  · cases hx

theorem aExtract_sound {x c : AV} {i : Nat} {u : Value} (hx : aExtract x i = some c) (hu : V σ h w x u) : ∃ r, (Instr.extract u i).run P w = .ok r w ∧ V σ h w c r := by
  unfold aExtract at hx
  split at hx
  · cases hu with
    | tup hl hv =>
      have hlt := (List.getElem?_eq_some_iff.1 hx).1
      rename_i us
      have hus : us[i]? = some (us[i]'(by omega)) := Array.getElem?_eq_getElem _
      exact ⟨_, by simp [Instr.extract, hus], hv i c _ hx hus⟩
  · cases hx

/-- The bounds of a cut, as the machine reckons them. -/
theorem run_bounds {isSlice : Bool} {len cap : Nat} {lo hi : Option AV} {lov hiv : Option Value} {l hh : Option Int} (hl : bound? lo = some l) (hhb : bound? hi = some hh)
    (h1 : ∀ c, lo = some c → ∃ u, lov = some u ∧ V σ h w c u) (h1' : lo = none → lov = none) (h2 : ∀ c, hi = some c → ∃ u, hiv = some u ∧ V σ h w c u) (h2' : hi = none → hiv = none)
    (b0 : 0 ≤ l.getD 0) (b1 : l.getD 0 ≤ hh.getD len) (b2 : hh.getD len ≤ cap) :
    (Instr.sliceBounds isSlice len cap lov hiv none).run P w = .ok ((l.getD 0).toNat, (hh.getD len).toNat, cap) w := by
  have hi' : (hiv = none ∧ hh = none) ∨ ∃ k n, hiv = some (.int k n) ∧ hh = some n := by
    cases hi with
    | none => simp only [bound?, Option.some.injEq] at hhb; exact .inl ⟨h2' rfl, hhb.symm⟩
    | some c =>
      simp only [bound?, Option.map_eq_some_iff] at hhb
      obtain ⟨n, hn, rfl⟩ := hhb
      obtain ⟨u, h3, h4⟩ := h2 c rfl
      obtain ⟨k, rfl⟩ := num_sound hn h4
      exact .inr ⟨k, n, h3, rfl⟩
  have lo' : (lov = none ∧ l = none) ∨ ∃ k n, lov = some (.int k n) ∧ l = some n := by
    cases lo with
    | none => simp only [bound?, Option.some.injEq] at hl; exact .inl ⟨h1' rfl, hl.symm⟩
    | some c =>
      simp only [bound?, Option.map_eq_some_iff] at hl
      obtain ⟨n, hn, rfl⟩ := hl
      obtain ⟨u, h3, h4⟩ := h1 c rfl
      obtain ⟨k, rfl⟩ := num_sound hn h4
      exact .inr ⟨k, n, h3, rfl⟩
  rcases hi' with ⟨rfl, rfl⟩ | ⟨kh, nh, rfl, rfl⟩ <;> rcases lo' with ⟨rfl, rfl⟩ | ⟨kl, nl, rfl, rfl⟩ <;> simp only [Option.getD_some, Option.getD_none] at b0 b1 b2
  · simp [Instr.sliceBounds]
  · have : nl ≤ (len : Int) := b1
    simp [Instr.sliceBounds, Instr.sliceBound, asIntOf, b0, this]
  · have h0 : 0 ≤ nh := by omega
    simp [Instr.sliceBounds, Instr.sliceBound, asIntOf, h0, b2]
  · have h0 : 0 ≤ nh := by omega
    have h3 : nl ≤ max nh 0 := by omega
    simp [Instr.sliceBounds, Instr.sliceBound, asIntOf, h0, b2, b0, h3]

theorem run_bounds0 {isSlice : Bool} {len cap : Nat} {lo hi mx : Option AV} {lov hiv mxv : Option Value} {l hh c : Option Int} (hl : bound? lo = some l) (hhb : bound? hi = some hh) (hcb : bound? mx = some c)
    (h1 : ∀ c, lo = some c → ∃ u, lov = some u ∧ V σ h w c u) (h1' : lo = none → lov = none) (h2 : ∀ c, hi = some c → ∃ u, hiv = some u ∧ V σ h w c u) (h2' : hi = none → hiv = none)
    (h3 : ∀ c, mx = some c → ∃ u, mxv = some u ∧ V σ h w c u) (h3' : mx = none → mxv = none)
    (b0 : l.getD 0 = 0) (b1 : hh.getD len = 0) (b2 : c.getD cap = 0) (hm : c.isSome → hh.isSome) :
    (Instr.sliceBounds isSlice len cap lov hiv mxv).run P w = .ok (0, 0, 0) w := by
  have hi' : (hiv = none ∧ hh = none) ∨ ∃ k n, hiv = some (.int k n) ∧ hh = some n := by
    cases hi with
    | none => simp only [bound?, Option.some.injEq] at hhb; exact .inl ⟨h2' rfl, hhb.symm⟩
    | some c =>
      simp only [bound?, Option.map_eq_some_iff] at hhb
      obtain ⟨n, hn, rfl⟩ := hhb
      obtain ⟨u, h3, h4⟩ := h2 c rfl
      obtain ⟨k, rfl⟩ := num_sound hn h4
      exact .inr ⟨k, n, h3, rfl⟩
  have lo' : (lov = none ∧ l = none) ∨ ∃ k n, lov = some (.int k n) ∧ l = some n := by
    cases lo with
    | none => simp only [bound?, Option.some.injEq] at hl; exact .inl ⟨h1' rfl, hl.symm⟩
    | some c =>
      simp only [bound?, Option.map_eq_some_iff] at hl
      obtain ⟨n, hn, rfl⟩ := hl
      obtain ⟨u, h3, h4⟩ := h1 c rfl
      obtain ⟨k, rfl⟩ := num_sound hn h4
      exact .inr ⟨k, n, h3, rfl⟩
  have mx' : (mxv = none ∧ c = none) ∨ ∃ k n, mxv = some (.int k n) ∧ c = some n := by
    cases mx with
    | none => simp only [bound?, Option.some.injEq] at hcb; exact .inl ⟨h3' rfl, hcb.symm⟩
    | some c =>
      simp only [bound?, Option.map_eq_some_iff] at hcb
      obtain ⟨n, hn, rfl⟩ := hcb
      obtain ⟨u, h3, h4⟩ := h3 c rfl
      obtain ⟨k, rfl⟩ := num_sound hn h4
      exact .inr ⟨k, n, h3, rfl⟩
  rcases hi' with ⟨rfl, rfl⟩ | ⟨kh, nh, rfl, rfl⟩ <;> rcases lo' with ⟨rfl, rfl⟩ | ⟨kl, nl, rfl, rfl⟩ <;> rcases mx' with ⟨rfl, rfl⟩ | ⟨kc, nc, rfl, rfl⟩ <;>
    simp only [Option.getD_some, Option.getD_none, Option.isSome_some, Option.isSome_none, forall_const, Bool.false_eq_true] at b0 b1 b2 hm <;>
    first
      | (exact hm.elim)
      | (simp [Instr.sliceBounds, Instr.sliceBound, asIntOf, b0, b1, b2]; omega)
      | (simp [Instr.sliceBounds, Instr.sliceBound, asIntOf, b0, b1, b2])
end
end Go.Proofs.Ytmmabdpmeijgmaa.AM
