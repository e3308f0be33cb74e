/- Equality of structs and arrays; copy, clear; maps. -/
import Derived.Test.YtmmabdpmeijgmaaA10
import Derived.ChangeKeysEq
import Derived.MapKept
namespace Go.Proofs.Ytmmabdpmeijgmaa.AM
open Go

/-- Are two scalars of a type equal? -/
def eqS (d : Option TypeDesc) : AV → AV → Option Bool
  | .lit (.bool a), .lit (.bool b) => match d with
    | some .bool => some (a == b)
    | _ => none
  | .lit (.int k a), .lit (.int k' b) => match d with
    | some (.int _) => if k = k' then some (a == b) else none
    | _ => none
  | .lit (.string a), .lit (.string b) => match d with
    | some .string => some (a.toList == b.toList)
    | _ => none
  | _, _ => none

def eqFs (ti : TI) (xs ys : List AV) : List (TypeId × Nat) → Option Bool
  | [] => some true
  | f :: fs => do
    let a ← aPart ti f.1 xs f.2
    let b ← aPart ti f.1 ys f.2
    let r ← eqS (ti.und f.1) a b
    if r then eqFs ti xs ys fs else some false

def eqAr (ti : TI) (e : TypeId) (n : Nat) (xs ys : List AV) : List Nat → Option Bool
  | [] => some true
  | i :: is => do
    let a ← aPart ti e xs (i * n)
    let b ← aPart ti e ys (i * n)
    let r ← eqS (ti.und e) a b
    if r then eqAr ti e n xs ys is else some false

/-- Are two values of a type equal? -/
def eqV (ti : TI) (t : TypeId) (x y : AV) : Option Bool :=
  match x, y with
  | .agg xs, .agg ys => match ti.sfs t with
    | some l => eqFs ti xs ys l
    | none => match ti.sar t with
      | some (n, e) => (ti.sz e).bind fun k => eqAr ti e k xs ys (List.range n)
      | none => none
  | x, y => eqS (ti.und t) x y

def aBinX (ti : TI) (t : TypeId) (op : BinOp) (x y : AV) : Option Value :=
  match x, y with
  | .agg xs, .agg ys => match op with
    | .eql => (eqV ti t (.agg xs) (.agg ys)).map .bool
    | .neq => (eqV ti t (.agg xs) (.agg ys)).map fun b => .bool (!b)
    | _ => none
  | x, y => aBin (ti.und t) op x y

/-- Is it nil? -/
def aNilEq (m : Loc → AObj) (d : Option TypeDesc) (op : BinOp) (x y : AV) : Option Eff :=
  match y with
  | .lit (.slice none 0 0) => match d, op with
    | some (.slice _), .eql => match x with
      | .slc id _ _ _ st => if (m (.blk id)).stamp = some st then some (.val (.lit (.bool false)) [.blk id]) else none
      | .rslc _ (_ :: _) => some (.val (.lit (.bool false)) [])
      | _ => none
    | some (.slice _), .neq => match x with
      | .slc id _ _ _ st => if (m (.blk id)).stamp = some st then some (.val (.lit (.bool true)) [.blk id]) else none
      | .rslc _ (_ :: _) => some (.val (.lit (.bool true)) [])
      | _ => none
    | _, _ => none
  | _ => none

def aBinM (ti : TI) (m : Loc → AObj) (t : TypeId) (op : BinOp) (x y : AV) : Option Eff :=
  match aNilEq m (ti.und t) op x y with
  | some e => some e
  | none => (aBinX ti t op x y).map fun v => .val (.lit v) []

/-- Where a key stands. -/
def findK (ti : TI) (kt : TypeId) (k : AV) : List (AV × AV × Nat) → Nat → Option (Option Nat)
  | [], _ => some none
  | e :: es, i => match eqV ti kt k e.1 with
    | some true => some (some i)
    | some false => findK ti kt k es (i + 1)
    | none => none

def isScal (d : Option TypeDesc) : Bool :=
  match d with
  | some .bool => true
  | some (.int _) => true
  | some .string => true
  | _ => false

/-- May it be a key? -/
def keyOk (ti : TI) (kt : TypeId) (x : AV) : Bool :=
  match x with
  | .agg xs => match ti.und kt with
    | some (.array n e) => isScal (ti.und e) && (match ti.sz e with
      | some k => (List.range n).all fun i => (aPart ti e xs (i * k)).isSome
      | none => false) && xs.all AV.one
    | _ => false
  | .lit _ => isScal (ti.und kt)
  | _ => false

def sameL : AV → AV → Bool
  | .lit u, .lit v => Instr.sameBits 9999 u v
  | _, _ => false

/-- Is it the same key, bit by bit? -/
def sameB : AV → AV → Bool
  | .agg xs, .agg ys => xs.length == ys.length && (xs.zip ys).all fun p => sameL p.1 p.2
  | .lit u, .lit v => Instr.sameBits 10000 u v
  | _, _ => false

def mapT (ti : TI) (t : TypeId) : Option (TypeId × TypeId) :=
  match ti.und t with
  | some (.map k e) => some (k, e)
  | _ => none

def okR (ok : Bool) (v : AV) (b : Bool) : AV := if ok then .tup [v, .lit (.bool b)] else v

def aLookup (ti : TI) (m : Loc → AObj) (t : TypeId) (x k : AV) (ok : Bool) : Option Eff :=
  (mapT ti t).bind fun (kt, et) => match x with
  | .map id => match m (.blk id) with
    | .map es _ => if keyOk ti kt k then
        match findK ti kt k es 0 with
        | some (some i) => (es[i]?).map fun e => .val (okR ok e.2.1 true) [.blk id]
        | some none => (ti.zero et).bind fun z => (ofVal z).bind fun c => some (.val (okR ok c false) [.blk id])
        | none => none
      else none
    | _ => none
  | _ => none

def aMapSet (ti : TI) (m : Loc → AObj) (t : TypeId) (x k v : AV) : Option Eff :=
  (mapT ti t).bind fun (kt, _) => match x with
  | .map id => match m (.blk id) with
    | .map es clock => if keyOk ti kt k then
        match findK ti kt k es 0 with
        | some (some i) => match es[i]? with
          | some e => if sameB e.1 k then some (.wr undefAV [.blk id] (.blk id) (.map (es.set i (k, v, e.2.2)) clock)) else none
          | none => none
        | some none => some (.wr undefAV [.blk id] (.blk id) (.map (es ++ [(k, v, clock)]) (clock + 1)))
        | none => none
      else none
    | _ => none
  | _ => none

def aMapEntry (ti : TI) (m : Loc → AObj) (t : TypeId) (x k : AV) : Option Eff :=
  (mapT ti t).bind fun (kt, et) => match x with
  | .map id => match m (.blk id) with
    | .map es clock => if keyOk ti kt k then
        match findK ti kt k es 0 with
        | some (some i) => match es[i]? with
          | some e => if sameB e.1 k then some (.wr (.tup [e.2.1, .lit (.int .i64 e.2.2)]) [.blk id] (.blk id) (.map (es.set i (k, e.2.1, e.2.2)) clock)) else none
          | none => none
        | some none => (ti.zero et).bind fun z => (ofVal z).bind fun c =>
          some (.wr (.tup [c, .lit (.int .i64 clock)]) [.blk id] (.blk id) (.map (es ++ [(k, c, clock)]) (clock + 1)))
        | none => none
      else none
    | _ => none
  | _ => none

def aEntrySet (m : Loc → AObj) (x s v : AV) : Option Eff :=
  match x, s with
  | .map id, .lit (.int _ n) => match m (.blk id) with
    | .map es clock => match es.findIdx? (fun e => (e.2.2 : Int) == n) with
      | some i => match es[i]? with
        | some e => some (.wr undefAV [.blk id] (.blk id) (.map (es.set i (e.1, v, e.2.2)) clock))
        | none => none
      | none => none
    | _ => none
  | _, _ => none

section
variable {σ σ' : Sim} {h h' : Hp} {w w' : World} {P : Program} {ti : TI} {tmps : List AV} {a : Act}

/-- A new place, whatever lies in it. -/
theorem RH.allocO (hr : RH σ h w) {k : Nat} (hk : ¬ h.al k) {x : AObj} {o : Obj} (ho : ObjRel σ h w x o) :
    Ext σ h w (σ.set (.blk k) w.heap.size) (h.new k x) (w.alloc o) ∧ RH (σ.set (.blk k) w.heap.size) (h.new k x) (w.alloc o) := by
  have xe : Ext σ h w (σ.set (.blk k) w.heap.size) (h.new k x) (w.alloc o) := {
    os := rfl
    tape := rfl
    output := rfl
    size := by simp
    keep := fun b' hb' _ => heap_alloc_old _ _ _ hb'
    shape := fun b' arr' e' f' hb' => ⟨arr', f', by rw [heap_alloc_old _ _ _ (lt_of_heap hb')]; exact hb', rfl⟩
    al := fun _ ha => .inl ha
    same := fun id st ha _ _ => Sim.set_other _ _ (by simp; rintro rfl; exact hk ha)
    grow := fun id L ha hL => ⟨L, by
      rw [Hp.new_other _ _ (by simp; rintro rfl; exact hk ha)] at hL
      exact hL, Nat.le_refl _⟩
    frozen := fun _ hf => hf
    fresh := fun _ hf => .inl hf
    new := fun l' b' hl' e' => by
      by_cases hid : l' = .blk k
      · subst hid
        rw [Sim.set_same] at e'
        cases e'
        exact .inl (Nat.le_refl _)
      · rw [Sim.set_other _ _ hid] at e'
        rw [Hp.new_other _ _ hid] at hl'
        exact .inr ⟨hl', e'⟩ }
  refine ⟨xe, fun l' hl' => ?_, fun l1 l2 b' h1' h2' e1 e2 => ?_, fun b' hb' => ?_, fun id hid => ?_⟩
  · by_cases hid : l' = .blk k
    · subst hid
      refine ⟨w.heap.size, o, Sim.set_same _ _ _, heap_alloc_same _ _, ?_, fun hf => ?_⟩
      · have : (h.new k x).m (.blk k) = x := by simp [Hp.new]
        rw [this]
        exact obj_ext xe hr ho
      · have := hr.F _ hf; omega
    · rw [Hp.new_other _ _ hid] at hl' ⊢
      rw [Sim.set_other _ _ hid]
      obtain ⟨b', o', h5, h6, h7, h8⟩ := hr.obj l' hl'
      exact ⟨b', o', h5, by rw [heap_alloc_old _ _ _ (lt_of_heap h6)]; exact h6, obj_ext xe hr h7, h8⟩
  · by_cases hid1 : l1 = .blk k
    · by_cases hid2 : l2 = .blk k
      · rw [hid1, hid2]
      · subst hid1
        rw [Sim.set_same] at e1
        cases e1
        rw [Sim.set_other _ _ hid2] at e2
        rw [Hp.new_other _ _ hid2] at h2'
        obtain ⟨b', o', h5, h6, _, _⟩ := hr.obj l2 h2'
        rw [e2] at h5
        cases h5
        have := lt_of_heap h6
        omega
    · by_cases hid2 : l2 = .blk k
      · subst hid2
        rw [Sim.set_same] at e2
        cases e2
        rw [Sim.set_other _ _ hid1] at e1
        rw [Hp.new_other _ _ hid1] at h1'
        obtain ⟨b', o', h5, h6, _, _⟩ := hr.obj l1 h1'
        rw [e1] at h5
        cases h5
        have := lt_of_heap h6
        omega
      · rw [Sim.set_other _ _ hid1] at e1
        rw [Hp.new_other _ _ hid1] at h1'
        rw [Sim.set_other _ _ hid2] at e2
        rw [Hp.new_other _ _ hid2] at h2'
        exact hr.inj l1 l2 b' h1' h2' e1 e2
  · have := hr.F b' hb'; simp; omega
  · by_cases hid' : id = k
    · exact .inr hid'
    · rw [Hp.new_other _ _ (by simpa using hid')] at hid
      exact .inl (hr.al id hid)

/-- What lies in a place that is no row is changed. -/
theorem RH.setO (hr : RH σ h w) {l : Loc} {b : Nat} {x : AObj} {o o' : Obj} (hl : h.m l ≠ .dead) (hb : σ.ρ l = some b) (hh : w.heap[b]? = some o) (hc : ∀ arr e f, o ≠ .cells arr e f) (hst : x.stamp = some 0)
    (h0 : (h.m l).stamp = some 0) (ho : ObjRel σ h w x o') :
    Ext σ h w σ (h.set l x) (w.putObj b o') ∧ RH σ (h.set l x) (w.putObj b o') := by
  have hlt := lt_of_heap hh
  have old : ∀ b', b' ≠ b → (w.putObj b o').heap[b']? = w.heap[b']? := fun b' hb' => World.putObj_heap_other hb'
  have xe : Ext σ h w σ (h.set l x) (w.putObj b o') := {
    os := rfl
    tape := rfl
    output := rfl
    size := by simp [World.putObj]
    keep := fun b' _ hn => old b' fun e => hn l hl (by rw [e]; exact hb)
    shape := fun b' arr' e' f' hb' => ⟨arr', f', by
      rw [old b' fun e => by rw [e, hh] at hb'; cases hb'; exact hc _ _ _ rfl]; exact hb', rfl⟩
    al := fun _ ha => ha
    same := fun _ _ _ _ _ => rfl
    grow := fun id L ha hL => by
      by_cases hid : Loc.blk id = l
      · rw [hid, Hp.set_same, hst] at hL
        cases hL
        exact ⟨0, by rw [hid]; exact h0, Nat.le_refl _⟩
      · rw [Hp.set_other _ _ hid] at hL
        exact ⟨L, hL, Nat.le_refl _⟩
    frozen := fun _ hf => hf
    fresh := fun _ hf => .inl hf
    new := fun l' b' hl' e' => by
      by_cases hid : l' = l
      · subst hid; exact .inr ⟨hl, e'⟩
      · rw [Hp.set_other _ _ hid] at hl'
        exact .inr ⟨hl', e'⟩ }
  have al : ∀ l', (h.set l x).m l' ≠ .dead → h.m l' ≠ .dead := fun l' hl' => by
    by_cases hid : l' = l
    · subst hid; exact hl
    · rw [Hp.set_other _ _ hid] at hl'; exact hl'
  refine ⟨xe, fun l' hl' => ?_, fun l1 l2 b' h1' h2' e1 e2 => hr.inj l1 l2 b' (al _ h1') (al _ h2') e1 e2, fun b' hb' => ?_, fun id hid => hr.al id (al _ hid)⟩
  · by_cases hid : l' = l
    · subst hid
      obtain ⟨b', o2, k1, k2, k3, k4⟩ := hr.obj l' hl
      rw [hb] at k1
      cases k1
      exact ⟨b, o', hb, World.putObj_heap_same hlt, by rw [Hp.set_same]; exact obj_ext xe hr ho, k4⟩
    · rw [Hp.set_other _ _ hid] at hl' ⊢
      obtain ⟨b', o2, k1, k2, k3, k4⟩ := hr.obj l' hl'
      refine ⟨b', o2, k1, ?_, obj_ext xe hr k3, k4⟩
      rw [old b' fun e => by rw [e] at k1; exact hid (hr.inj l' l b hl' hl k1 hb)]
      exact k2
  · have := hr.F b' hb'; simpa [World.putObj] using this
theorem eqS_sound (hti : TIok P ti) {t : TypeId} {x y : AV} {u v : Value} {b : Bool} (he : eqS (ti.und t) x y = some b) (hx : V σ h w x u) (hy : V σ h w y v) (n : Nat) (w1 : World) :
    (Op.equalIn (n + 1) t u v).run P w1 = .ok b w1 := by
  unfold eqS at he
  split at he
  · cases hx; cases hy
    split at he
    · rename_i ht
      cases he
      exact run_equalIn_bool' w1 n t _ _ (hti.und _ _ ht)
    · cases he
  · cases hx; cases hy
    split at he
    · rename_i ht
      split at he
      · rename_i hk
        subst hk
        cases he
        exact run_equalIn_int w1 n t _ _ _ _ (hti.und _ _ ht)
      · cases he
    · cases he
  · cases hx; cases hy
    split at he
    · rename_i ht
      cases he
      exact run_equalIn_string w1 n t _ _ (hti.und _ _ ht)
    · cases he
  · cases he

def Parts (σ : Sim) (h : Hp) (w : World) (xs : List AV) (us : Array Value) : Prop :=
  us.size = xs.length ∧ (∀ c ∈ xs, c.one = true) ∧ ∀ (i : Nat) c u, xs[i]? = some c → us[i]? = some u → V σ h w c u

theorem Parts.at_ (hti : TIok P ti) {xs : List AV} {us : Array Value} (hp : Parts σ h w xs us) {t : TypeId} {off : Nat} {c : AV} (hc : aPart ti t xs off = some c) : ∃ v, (part t us off).run P w = .ok v w ∧ V σ h w c v :=
  aPart_sound hti hc hp.1 hp.2.1 hp.2.2

theorem eqFs_sound (hti : TIok P ti) {xs ys : List AV} {us vs : Array Value} (hx : Parts σ h w xs us) (hy : Parts σ h w ys vs) (n : Nat) : ∀ (fs : List Field) {b : Bool}, (∀ f ∈ fs, f.name ≠ "_") →
    eqFs ti xs ys (fs.map fun f => (f.type, f.offset)) = some b → (Op.eqFields (n + 1) us vs fs).run P w = .ok b w
  | [], b, _, he => by
    cases he
    simp [Op.eqFields]
  | f :: fs, b, hn, he => by
    simp only [List.map_cons, eqFs, Option.bind_eq_bind, Option.bind_eq_some_iff] at he
    obtain ⟨a, ha, b', hb, r, hr, he⟩ := he
    obtain ⟨va, p1, q1⟩ := hx.at_ hti ha
    obtain ⟨vb, p2, q2⟩ := hy.at_ hti hb
    have p3 := eqS_sound hti hr q1 q2 n w
    have hn0 := hn f (by simp)
    simp only [Op.eqFields, hn0, ne_eq, not_false_eq_true, if_true, Sem.run_bind, p1, p2, p3, Result.andThen_ok]
    cases r with
    | false =>
      simp only [Bool.false_eq_true, if_false, Option.some.injEq] at he
      subst he
      simp
    | true =>
      simp only [if_true] at he
      simpa using eqFs_sound hti hx hy n fs (fun g hg => hn g (by simp [hg])) he

theorem eqAr_sound (hti : TIok P ti) {xs ys : List AV} {us vs : Array Value} (hx : Parts σ h w xs us) (hy : Parts σ h w ys vs) (n : Nat) {e : TypeId} {k : Nat} : ∀ (is : List Nat) {b : Bool},
    eqAr ti e k xs ys is = some b → (Op.eqItems (n + 1) e k us vs is).run P w = .ok b w
  | [], b, he => by
    cases he
    simp [Op.eqItems]
  | i :: is, b, he => by
    simp only [eqAr, Option.bind_eq_bind, Option.bind_eq_some_iff] at he
    obtain ⟨a, ha, b', hb, r, hr, he⟩ := he
    obtain ⟨va, p1, q1⟩ := hx.at_ hti ha
    obtain ⟨vb, p2, q2⟩ := hy.at_ hti hb
    have p3 := eqS_sound hti hr q1 q2 n w
    simp only [Op.eqItems, Sem.run_bind, p1, p2, p3, Result.andThen_ok]
    cases r with
    | false =>
      simp only [Bool.false_eq_true, if_false, Option.some.injEq] at he
      subst he
      simp
    | true =>
      simp only [if_true] at he
      simpa using eqAr_sound hti hx hy n is he

theorem parts_of {xs : List AV} {u : Value} (hu : V σ h w (.agg xs) u) : ∃ us, u = .agg us ∧ Parts σ h w xs us := by
  cases hu with
  | agg hl h1 hv => exact ⟨_, rfl, hl, h1, hv⟩

theorem eqV_sound (hti : TIok P ti) {t : TypeId} {x y : AV} {u v : Value} {b : Bool} (he : eqV ti t x y = some b) (hx : V σ h w x u) (hy : V σ h w y v) : (Op.equal t u v).run P w = .ok b w := by
  show (Op.equalIn (9998 + 1 + 1) t u v).run P w = .ok b w
  unfold eqV at he
  split at he
  · rename_i xs ys
    obtain ⟨us, rfl, px⟩ := parts_of hx
    obtain ⟨vs, rfl, py⟩ := parts_of hy
    split at he
    · rename_i l hl
      obtain ⟨h1, h2, h3, h4, _⟩ := hti.sfs _ _ hl
      subst h2
      rw [run_equalIn_agg w _ t us vs h1 h4]
      exact eqFs_sound hti px py _ _ h3 he
    · split at he
      · rename_i n e hs
        obtain ⟨h1, _⟩ := hti.sar _ _ _ hs
        simp only [Option.bind_eq_some_iff] at he
        obtain ⟨k, hk, he⟩ := he
        obtain ⟨i, hi1, hi2⟩ := hti.sz _ _ hk
        rw [run_equalIn_array w _ us vs h1 hi1]
        have hc : P.cellsOf e = k := by simp [Program.cellsOf, hi1, hi2]
        rw [hc]
        exact eqAr_sound hti px py _ _ he
      · cases he
  · exact eqS_sound hti he hx hy _ w

theorem aBinX_sound (hti : TIok P ti) {op : BinOp} {t : TypeId} {c d : AV} {u v r : Value} (hr : aBinX ti t op c d = some r) (hu : V σ h w c u) (hv : V σ h w d v) (x y : Operand) :
    (do eqGuard op t x y u v; binOp op t u v : Sem Value).run P w = .ok r w ∧ r.oneCell' = true := by
  unfold aBinX at hr
  split at hr
  · rename_i xs ys
    have guard : ∀ b, eqV ti t (.agg xs) (.agg ys) = some b → P.eqGuardType P.depth t = false := by
      intro b he
      simp only [eqV] at he
      split at he
      · rename_i l hl
        exact (hti.sfs _ _ hl).2.2.2.2
      · split at he
        · rename_i n e hs
          exact (hti.sar _ _ _ hs).2
        · cases he
    split at hr
    · simp only [Option.map_eq_some_iff] at hr
      obtain ⟨b, hb, rfl⟩ := hr
      have h1 := eqV_sound hti hb hu hv
      obtain ⟨us, rfl, px⟩ := parts_of hu
      obtain ⟨vs, rfl, py⟩ := parts_of hv
      refine ⟨?_, rfl⟩
      have h1' : (Op.equalIn 10000 t (.agg us) (.agg vs)).run P w = .ok b w := h1
      simp only [Sem.run_bind, run_eqGuard_agg w _ t x y us vs (guard b hb), Result.andThen_ok, run_eql_struct, h1']
    · simp only [Option.map_eq_some_iff] at hr
      obtain ⟨b, hb, rfl⟩ := hr
      have h1 := eqV_sound hti hb hu hv
      obtain ⟨us, rfl, px⟩ := parts_of hu
      obtain ⟨vs, rfl, py⟩ := parts_of hv
      refine ⟨?_, rfl⟩
      have h1' : (Op.equalIn 10000 t (.agg us) (.agg vs)).run P w = .ok b w := h1
      simp only [Sem.run_bind, run_eqGuard_agg w _ t x y us vs (guard b hb), Result.andThen_ok, run_neq_struct, h1']
    · cases hr
  · exact aBin_sound hti hr hu hv x y

theorem run_equal_not_nil {t e : TypeId} (hti : TIok P ti) (ht : ti.und t = some (.slice e)) (ar : Addr) (n c : Nat) (w : World) : (Op.equal t (.slice (some ar) n c) (.slice none 0 0)).run P w = .ok false w := by
  have : ∀ d : Nat, (Op.equalIn (d + 1) t (.slice (some ar) n c) (.slice none 0 0)).run P w = .ok false w := fun d => by
    simp [Op.equalIn, run_und hti ht]
  exact this 9999

theorem aNilEq_sound (hti : TIok P ti) {op : BinOp} {t : TypeId} {c d : AV} {u v : Value} {e : Eff} (hr : aNilEq h.m (ti.und t) op c d = some e) (hu : V σ h w c u) (hv : V σ h w d v) (x y : Operand) :
    ∃ b rd, e = .val (.lit (.bool b)) rd ∧ (do eqGuard op t x y u v; binOp op t u v : Sem Value).run P w = .ok (.bool b) w := by
  unfold aNilEq at hr
  split at hr
  · cases hv
    have key : ∀ (el : TypeId) (ar : Addr) (n cap : Nat), ti.und t = some (.slice el) → ((do eqGuard .eql t x y (.slice (some ar) n cap) (.slice none 0 0); binOp .eql t (.slice (some ar) n cap) (.slice none 0 0) : Sem Value).run P w = .ok (.bool false) w) ∧
        ((do eqGuard .neq t x y (.slice (some ar) n cap) (.slice none 0 0); binOp .neq t (.slice (some ar) n cap) (.slice none 0 0) : Sem Value).run P w = .ok (.bool true) w) := by
      intro el ar n cap ht
      constructor
      · simp only [Sem.run_bind, eqGuard_two .eql t x y (.slice (some ar) n cap) (.slice none 0 0) (by simp) (by simp), Result.andThen_ok, binOp, run_equal_not_nil hti ht]
        rfl
      · simp only [Sem.run_bind, eqGuard_two .neq t x y (.slice (some ar) n cap) (.slice none 0 0) (by simp) (by simp), Result.andThen_ok, binOp, run_equal_not_nil hti ht]
        rfl
    have sl : ∀ {id off len esz st : Nat}, V σ h w (.slc id off len esz st) u → (h.m (.blk id)).stamp = some st → ∃ ar n cap, u = .slice (some ar) n cap := by
      intro id off len esz st hu hs
      cases hu with
      | slc => exact ⟨_, _, _, rfl⟩
      | slcS _ _ q => have := q st hs; omega
    have rs : ∀ {esz : Nat} {e : List AV} {es : List (List AV)}, V σ h w (.rslc esz (e :: es)) u → ∃ ar n cap, u = .slice (some ar) n cap := by
      intro esz e es hu
      cases hu
      exact ⟨_, _, _, rfl⟩
    split at hr
    · rename_i el ht
      split at hr
      · split at hr
        · rename_i hs
          cases hr
          obtain ⟨ar, n, cap, rfl⟩ := sl hu hs
          exact ⟨_, _, rfl, (key _ ar n cap ht).1⟩
        · cases hr
      · cases hr
        obtain ⟨ar, n, cap, rfl⟩ := rs hu
        exact ⟨_, _, rfl, (key _ ar n cap ht).1⟩
      · cases hr
    · rename_i el ht
      split at hr
      · split at hr
        · rename_i hs
          cases hr
          obtain ⟨ar, n, cap, rfl⟩ := sl hu hs
          exact ⟨_, _, rfl, (key _ ar n cap ht).2⟩
        · cases hr
      · cases hr
        obtain ⟨ar, n, cap, rfl⟩ := rs hu
        exact ⟨_, _, rfl, (key _ ar n cap ht).2⟩
      · cases hr
    · cases hr
  · cases hr

theorem aBinM_sound (hti : TIok P ti) {op : BinOp} {t : TypeId} {c d : AV} {u v : Value} {e : Eff} (hr : aBinM ti h.m t op c d = some e) (hu : V σ h w c u) (hv : V σ h w d v) (x y : Operand) :
    ∃ r rd, e = .val (.lit r) rd ∧ (do eqGuard op t x y u v; binOp op t u v : Sem Value).run P w = .ok r w := by
  unfold aBinM at hr
  split at hr
  · rename_i e' he
    cases hr
    obtain ⟨b, rd, h1, h2⟩ := aNilEq_sound hti he hu hv x y
    exact ⟨_, rd, h1, h2⟩
  · simp only [Option.map_eq_some_iff] at hr
    obtain ⟨r, h1, rfl⟩ := hr
    exact ⟨r, [], rfl, (aBinX_sound hti h1 hu hv x y).1⟩

/-! ### copy, clear -/
theorem short_sound {q cnt : Nat} {y y' : AV} {v : Value} {n : Nat} {cs : List AV} {rd : List Loc} (hr : RH σ h w) (hn : 0 < n) (hs : srcCells h.m n y = some (cnt, cs, rd)) (hsh : shortS q cnt y = some y') (hq : q ≤ cnt) (hv : V σ h w y v)
    {cnt' : Nat} {cs' : List AV} {rd' : List Loc} (hs' : srcCells h.m n y' = some (cnt', cs', rd')) :
    cs'.length = q * n ∧ (∀ c ∈ cs', c.one = true) ∧ (∀ w1 : World, (Builtin.lenOf v).run P w1 = .ok cnt w1) ∧ ∃ arr : Array Value, arr.size = cs'.length ∧ ArrRel σ h w cs' arr ∧ ∀ w1 : World, w1.heap = w.heap → (Builtin.firstCells n q v).run P w1 = .ok arr w1 := by
  obtain ⟨_, _, t3, _⟩ := src_sound (P := P) hr hn hs hv
  unfold shortS at hsh
  split at hsh
  · rename_i he
    subst he
    cases hsh
    rw [hs] at hs'
    cases hs'
    exact src_sound hr hn hs hv
  · split at hsh
    · rename_i id off len esz st
      cases hsh
      cases hv with
      | slcS _ _ q' =>
        simp only [srcCells] at hs
        split at hs
        · rename_i bs hm
          split at hs
          · rename_i hc
            have := q' bs.length (by rw [hm]; rfl)
            omega
          · cases hs
        · cases hs
      | @slc _ _ _ _ _ b cap arr e' f q1 q2 q3 q4 q5 q6 =>
        have hcnt : cnt = len := by
          simp only [srcCells] at hs
          split at hs
          · split at hs
            · cases hs; rfl
            · cases hs
          · cases hs
        have hcnt' : cnt' = q := by
          simp only [srcCells] at hs'
          split at hs'
          · split at hs'
            · cases hs'; rfl
            · cases hs'
          · cases hs'
        subst hcnt'
        obtain ⟨s1, s2, _, arr2, s4, s5, s6⟩ := src_sound (P := P) hr hn hs' (.slc (len := cnt') (cap := cap) q1 q2 q3 q4 (by omega) q6)
        exact ⟨s1, s2, t3, arr2, s4, s5, fun w1 hw => by simpa [Builtin.firstCells] using s6 w1 hw⟩
    · cases hsh

theorem aCopy_sound (hti : TIok P ti) (hr : RH σ h w) {k : Nat} {d : Option Nat} {t t2 ty : TypeId} {x y : AV} {u v : Value} {e : Eff} (he : aCopy ti h.m t x y = some e) (hu : V σ h w x u) (hv : V σ h w y v) :
    ∃ r w', (Builtin.copy_ #[t, t2] ty #[u, v]).run P w = .ok r w' ∧ e.Leaves σ h w k d r w' := by
  unfold aCopy at he
  simp only [Option.bind_eq_bind, Option.bind_eq_some_iff, Prod.exists] at he
  obtain ⟨el, hel, n, hn, cnt, cs0, rd0, hs, he⟩ := he
  split at he
  · rename_i hn0
    split at he
    · rename_i id off len esz st
      cases hm : h.m (.blk id) with
      | dead => rw [hm] at he; cases he
      | map _ _ => rw [hm] at he; cases he
      | loop _ _ _ _ _ _ _ => rw [hm] at he; cases he
      | cells bs =>
        rw [hm] at he
        simp only [Option.bind_eq_some_iff, Prod.exists] at he
        obtain ⟨y', hy', cnt', cs, rd, hs', he⟩ := he
        split at he
        · rename_i hc
          obtain ⟨c1, c2, c3⟩ := hc
          cases he
          cases hu with
          | slcS _ _ q =>
            have := q bs.length (by rw [hm]; rfl)
            omega
          | @slc _ _ _ _ _ b cap arr e' f q1 q2 q3 q4 q5 q6 =>
            have hq : min cnt len ≤ cnt := Nat.min_le_left _ _
            have hq2 : min cnt len ≤ len := Nat.min_le_right _ _
            obtain ⟨s1, s2, s3, arr2, a1, a2, a3⟩ := short_sound (P := P) hr hn0 hs hy' hq hv hs'
            have hle : min cnt len * n ≤ len * n := Nat.mul_le_mul_right _ hq2
            obtain ⟨w', k1, k2, k3⟩ := RH.storeCells (P := P) (l := .blk id) q3 arr2.toList cs bs h w off 0 hr hm (by omega) (by simp [a1])
              (fun i c u' hi hu' => by
                obtain ⟨u2, g1, g2, g3⟩ := a2 i c hi
                rw [Array.getElem?_toList, g1] at hu'
                cases hu'
                exact g3) (fun c hc => s2 c hc)
            refine ⟨goInt ((min cnt len : Nat) : Int), w', ?_, ⟨σ, k2, k3, ?_, fun _ => rfl⟩⟩
            · have hm' : Nat.min cnt len = min cnt len := rfl
              simp [Builtin.copy_, run_und hti (elemOf_und hel), s3 w, run_sizeOf hti hn, hm', a3 w rfl, k1]
            · exact .lit _
        · cases he
      
    · cases he
  · cases he

theorem aClear_sound (hti : TIok P ti) (hr : RH σ h w) {k : Nat} {d : Option Nat} {t ty : TypeId} {x : AV} {u : Value} {e : Eff} (he : aClear ti h.m t x = some e) (hu : V σ h w x u) :
    ∃ r w', (Builtin.clear_ #[t] ty #[u]).run P w = .ok r w' ∧ e.Leaves σ h w k d r w' := by
  unfold aClear at he
  simp only [Option.bind_eq_bind, Option.bind_eq_some_iff] at he
  obtain ⟨el, hel, n, hn, zs, hz, he⟩ := he
  have ht := elemOf_und hel
  split at he
  · cases he
    cases hu with
    | rslc vs hsp hF h1 hlc hc hv hz =>
      exact ⟨undef, w, by simp [Builtin.clear_, run_und hti ht]; rfl, leaves_val hr (.lit _)⟩
    | @rslc0 _ cap ar =>
      refine ⟨undef, w, ?_, leaves_val hr (.lit _)⟩
      cases ar <;> (simp [Builtin.clear_, run_und hti ht]; rfl)
  · cases he
    cases hu
    rename_i ar
    refine ⟨undef, w, ?_, leaves_val hr (.lit _)⟩
    cases ar <;> (simp [Builtin.clear_, run_und hti ht]; rfl)
  · cases he
    cases hu
    exact ⟨undef, w, by simp [Builtin.clear_, run_und hti ht]; rfl, leaves_val hr (.lit _)⟩
  · rename_i id off len esz st
    cases hm : h.m (.blk id) with
    | dead => rw [hm] at he; cases he
    | map _ _ => rw [hm] at he; cases he
    | loop _ _ _ _ _ _ _ => rw [hm] at he; cases he
    | cells bs =>
      rw [hm] at he
      simp only [] at he
      split at he
      · rename_i hc
        obtain ⟨c1, c2, c3, c4⟩ := hc
        cases he
        cases hu with
        | slcS _ _ q =>
          have := q bs.length (by rw [hm]; rfl)
          omega
        | @slc _ _ _ _ _ b cap arr e' f q1 q2 q3 q4 q5 q6 =>
          obtain ⟨z, z1, z2, z3, z4⟩ := zerosOf_sound hz
          by_cases hl0 : len = 0
          · subst hl0
            refine ⟨undef, w, by simp [Builtin.clear_, run_und hti ht]; rfl, ⟨σ, ?_, ?_, .lit _, fun _ => rfl⟩⟩
            · have : (Eff.wr undefAV [Loc.blk id] (.blk id) (.cells (setAt bs off (rep 0 zs)))).hp h k d = h := by
                simp only [Eff.hp, rep, List.replicate_zero, List.flatten_nil, setAt]
                exact Hp.set_id _ _ _ hm
              rw [this]
              exact Ext.refl _ _ _
            · have : (Eff.wr undefAV [Loc.blk id] (.blk id) (.cells (setAt bs off (rep 0 zs)))).hp h k d = h := by
                simp only [Eff.hp, rep, List.replicate_zero, List.flatten_nil, setAt]
                exact Hp.set_id _ _ _ hm
              rw [this]
              exact hr
          · have hrel := arrRel_rep z2 (z3 σ h w) len (len * z.cells.size) (by rw [z2]; exact Nat.le_refl _)
            obtain ⟨w', k1, k2, k3⟩ := RH.storeCells (P := P) (l := .blk id) q3 (Builtin.zeroCells z.cells len).toList (rep len zs) bs h w off 0 hr hm (by rw [length_rep]; rw [c3]; omega) (by simp [Builtin.zeroCells, length_rep, z2])
              (fun i c u' hi hu' => by
                obtain ⟨u2, g1, g2, g3⟩ := hrel i c hi
                rw [Array.getElem?_toList] at hu'
                have : (Builtin.zeroCells z.cells len)[i]? = some u2 := g1
                rw [this] at hu'
                cases hu'
                exact g3) (fun c hc => z4 c (mem_rep hc))
            refine ⟨undef, w', ?_, ⟨σ, k2, k3, .lit _, fun _ => rfl⟩⟩
            obtain ⟨len', rfl⟩ : ∃ len', len = len' + 1 := ⟨len - 1, by omega⟩
            simp [Builtin.clear_, run_und hti ht, run_zero hti z1, k1]
            rfl
      · cases he
  · cases he

/-! ### maps -/
theorem map_at (hr : RH σ h w) {id : Nat} {es : List (AV × AV × Nat)} {clock : Nat} (hm : h.m (.blk id) = .map es clock) {u : Value} (hu : V σ h w (.map id) u) :
    ∃ b arr, u = .map (some b) ∧ σ.ρ (.blk id) = some b ∧ w.heap[b]? = some (.map arr clock) ∧ arr.size = es.length ∧
      ∀ (i : Nat) e, es[i]? = some e → ∃ u, arr[i]? = some u ∧ V σ h w e.1 u.key ∧ V σ h w e.2.1 u.val ∧ u.born = e.2.2 := by
  obtain ⟨b, o, h1, h2, h3, h4⟩ := hr.obj (.blk id) (by rw [hm]; simp)
  rw [hm] at h3
  cases o <;> simp only [ObjRel] at h3
  obtain ⟨rfl, h5, h6⟩ := h3
  cases hu with
  | map q1 q2 q3 =>
    rw [h1] at q3
    cases q3
    exact ⟨b, _, rfl, h1, h2, h5, h6⟩
  | mapS q1 q2 q3 =>
    have := q3 0 (by rw [hm]; rfl)
    omega

theorem sameNow_eqS {t : TypeId} {x y : AV} {u v : Value} {b b' : Bool} (hti : TIok P ti) (he : eqV ti t x y = some b) (hx : V σ h w x u) (hy : V σ h w y v) {d : TypeDesc} (hs : Instr.sameNow d u v = some b') : b' = b := by
  unfold eqV at he
  split at he
  · obtain ⟨us, rfl, _⟩ := parts_of hx
    obtain ⟨vs, rfl, _⟩ := parts_of hy
    cases d <;> simp [Instr.sameNow] at hs
  · unfold eqS at he
    split at he
    · cases hx; cases hy
      split at he
      · cases he
        cases d <;> simp [Instr.sameNow] at hs
        exact hs.symm
      · cases he
    · cases hx; cases hy
      split at he
      · split at he
        · rename_i hk
          subst hk
          cases he
          cases d <;> simp [Instr.sameNow] at hs
          exact hs.symm
        · cases he
      · cases he
    · cases hx; cases hy
      split at he
      · cases he
        cases d <;> simp [Instr.sameNow] at hs
        rw [← hs, beq_toListBytes]
      · cases he
    · cases he

theorem findK_sound (hti : TIok P ti) {kt : TypeId} {k : AV} {ku : Value} (hk : V σ h w k ku) : ∀ (es : List (AV × AV × Nat)) (us : List MapEntry) (i : Nat) {r : Option Nat}, us.length = es.length →
    (∀ (j : Nat) e, es[j]? = some e → ∃ u, us[j]? = some u ∧ V σ h w e.1 u.key) → findK ti kt k es i = some r →
    ∃ q : Option (Nat × Value), (Instr.findAsking kt ku us i).run P w = .ok q w ∧ (∀ d q', Instr.findNow d ku us i = some q' → q' = q) ∧
      ((r = none ∧ q = none) ∨ ∃ j u, r = some (i + j) ∧ us[j]? = some u ∧ q = some (i + j, u.val))
  | [], us, i, r, hl, _, he => by
    have : us = [] := List.eq_nil_of_length_eq_zero hl
    subst this
    cases he
    exact ⟨none, rfl, fun d q' hq => by cases hq; rfl, .inl ⟨rfl, rfl⟩⟩
  | e :: es, [], i, r, hl, _, _ => by simp at hl
  | e :: es, u :: us, i, r, hl, hv, he => by
    obtain ⟨u', hu', hkey⟩ := hv 0 e rfl
    simp only [List.getElem?_cons_zero, Option.some.injEq] at hu'
    subst hu'
    simp only [findK] at he
    split at he
    · rename_i heq
      cases he
      have h1 := eqV_sound hti heq hk hkey
      refine ⟨some (i, u.val), by simp [Instr.findAsking, h1], fun d q' hq => ?_, .inr ⟨0, u, rfl, rfl, rfl⟩⟩
      simp only [Instr.findNow] at hq
      split at hq
      · cases hq; rfl
      · rename_i hs
        have := sameNow_eqS hti heq hk hkey hs
        cases this
      · cases hq
    · rename_i heq
      have h1 := eqV_sound hti heq hk hkey
      obtain ⟨q, k1, k2, k3⟩ := findK_sound hti hk es us (i + 1) (by simpa using hl) (fun j e' hj => by simpa using hv (j + 1) e' (by simpa using hj)) he
      refine ⟨q, by simp [Instr.findAsking, h1, k1], fun d q' hq => ?_, ?_⟩
      · simp only [Instr.findNow] at hq
        split at hq
        · rename_i hs
          have := sameNow_eqS hti heq hk hkey hs
          cases this
        · exact k2 d q' hq
        · cases hq
      · rcases k3 with k3 | ⟨j, u', g1, g2, g3⟩
        · exact .inl k3
        · exact .inr ⟨j + 1, u', by rw [g1]; congr 1; omega, by simpa using g2, by rw [g3]; congr 2; omega⟩
    · cases he

theorem isScal_und {t : TypeId} (hs : isScal (ti.und t) = true) : ∃ d, ti.und t = some d ∧ (d = .bool ∨ (∃ k, d = .int k) ∨ d = .string) := by
  unfold isScal at hs
  split at hs <;> simp_all

theorem run_checkKey_scal (hti : TIok P ti) {t : TypeId} (hs : isScal (ti.und t) = true) (e : Bool) (n : Nat) (u : Value) (w : World) : (Instr.checkKey e (n + 1) t u).run P w = .ok () w := by
  obtain ⟨d, h1, h2⟩ := isScal_und hs
  unfold Instr.checkKey
  simp only [Sem.run_bind, run_und hti h1, Result.andThen_ok]
  rcases h2 with rfl | ⟨k, rfl⟩ | rfl <;> rfl

theorem run_forIn_unit {f : Nat → PUnit → Sem (ForInStep PUnit)} : ∀ (m i : Nat), (∀ j, i ≤ j → j < i + m → (f j PUnit.unit).run P w = .ok (.yield PUnit.unit) w) → (forIn (List.range' i m) PUnit.unit f : Sem PUnit).run P w = .ok PUnit.unit w
  | 0, i, _ => rfl
  | m + 1, i, hf => by
    simp only [List.range'_succ, List.forIn_cons, Sem.run_bind, hf i (Nat.le_refl _) (by omega), Result.andThen_ok]
    exact run_forIn_unit m (i + 1) fun j h1 h2 => hf j (by omega) (by omega)

theorem keyOk_sound (hti : TIok P ti) {kt : TypeId} {x : AV} {u : Value} (hk : keyOk ti kt x = true) (hu : V σ h w x u) (e : Bool) : (Instr.checkKey e 10000 kt u).run P w = .ok () w := by
  unfold keyOk at hk
  split at hk
  · rename_i xs
    obtain ⟨us, rfl, px⟩ := parts_of hu
    split at hk
    · rename_i n el ht
      simp only [Bool.and_eq_true] at hk
      obtain ⟨⟨h1, h2⟩, _⟩ := hk
      split at h2
      · rename_i k hk'
        have step : ∀ i, i < n → ∃ v, (part el us (i * k)).run P w = .ok v w := fun i hi => by
          have := List.all_eq_true.1 h2 i (by simpa using hi)
          obtain ⟨c, hc⟩ := Option.isSome_iff_exists.1 this
          obtain ⟨v, hv, _⟩ := px.at_ hti hc
          exact ⟨v, hv⟩
        show (Instr.checkKey e (9998 + 1 + 1) kt (.agg us)).run P w = .ok () w
        unfold Instr.checkKey
        simp only [Sem.run_bind, run_und hti ht, Result.andThen_ok]
        simp only [Std.Legacy.Range.forIn_eq_forIn_range', Std.Legacy.Range.size, Nat.sub_zero, Nat.add_one_sub_one, Nat.div_one]
        rw [run_forIn_unit n 0 (fun i _ hi => ?_)]
        · rfl
        · obtain ⟨v, hv⟩ := step i (by omega)
          simp only [Sem.run_bind, run_sizeOf hti hk', Result.andThen_ok, hv, run_checkKey_scal hti h1, Sem.run_pure]
      · cases h2
    · cases hk
  · exact run_checkKey_scal hti hk e 9999 u w
  · cases hk

theorem findKey_sound (hti : TIok P ti) {kt : TypeId} {k : AV} {ku : Value} (hk : V σ h w k ku) (hok : keyOk ti kt k = true) {es : List (AV × AV × Nat)} {arr : Array MapEntry} {r : Option Nat} (hl : arr.size = es.length)
    (hv : ∀ (j : Nat) e, es[j]? = some e → ∃ u, arr[j]? = some u ∧ V σ h w e.1 u.key) (he : findK ti kt k es 0 = some r) :
    ∃ q : Option (Nat × Value), (Instr.findKey kt ku arr.toList).run P w = .ok q w ∧ ((r = none ∧ q = none) ∨ ∃ j u, r = some j ∧ arr[j]? = some u ∧ q = some (j, u.val)) := by
  obtain ⟨q, k1, k2, k3⟩ := findK_sound (P := P) hti hk es arr.toList 0 (by simpa using hl) (fun j e hj => by simpa using hv j e hj) he
  have hund : ∃ d, ti.und kt = some d := by
    unfold keyOk at hok
    split at hok
    · split at hok
      · rename_i ht; exact ⟨_, ht⟩
      · cases hok
    · obtain ⟨d, hd, _⟩ := isScal_und hok; exact ⟨d, hd⟩
    · cases hok
  obtain ⟨d, hd⟩ := hund
  refine ⟨q, ?_, ?_⟩
  · simp only [Instr.findKey, Sem.run_bind, run_und hti hd, Result.andThen_ok]
    cases hf : Instr.findNow d ku arr.toList 0 with
    | some q' => simp only [k2 d q' hf]; rfl
    | none => exact k1
  · rcases k3 with k3 | ⟨j, u, g1, g2, g3⟩
    · exact .inl k3
    · exact .inr ⟨j, u, by simpa using g1, by simpa using g2, by simpa using g3⟩

theorem mapT_und {t kt et : TypeId} (hm : mapT ti t = some (kt, et)) : ti.und t = some (.map kt et) := by
  unfold mapT at hm
  split at hm
  · rename_i k e ht; cases hm; exact ht
  · cases hm

theorem okR_V {ok b : Bool} {c : AV} {v : Value} (hv : V σ h w c v) : V σ h w (okR ok c b) (if ok then .tuple #[v, .bool b] else v) := by
  unfold okR
  cases ok with
  | true =>
    simp only [if_true]
    refine .tup rfl fun i c' u hi hu => ?_
    match i with
    | 0 => simp at hi hu; subst hi hu; exact hv
    | 1 => simp at hi hu; subst hi hu; exact .lit _
    | i + 2 => simp at hi
  | false => simpa using hv

theorem aLookup_sound (hti : TIok P ti) (hr : RH σ h w) {k : Nat} {d : Option Nat} {t : TypeId} {x y : AV} {u v : Value} {ok : Bool} {e : Eff} (he : aLookup ti h.m t x y ok = some e) (hu : V σ h w x u) (hv : V σ h w y v) :
    ∃ r w', (Instr.lookup t u v ok).run P w = .ok r w' ∧ e.Leaves σ h w k d r w' := by
  unfold aLookup at he
  simp only [Option.bind_eq_bind, Option.bind_eq_some_iff, Prod.exists] at he
  obtain ⟨kt, et, ht, he⟩ := he
  split at he
  · rename_i id
    split at he
    · rename_i es clock hm
      split at he
      · rename_i hok
        obtain ⟨b, arr, rfl, h1, h2, h3, h4⟩ := map_at hr hm hu
        have hck := keyOk_sound (P := P) hti hok hv arr.isEmpty
        have hund := mapT_und ht
        cases hf : findK ti kt y es 0 with
        | none => rw [hf] at he; cases he
        | some r =>
          rw [hf] at he
          obtain ⟨q, k1, k2⟩ := findKey_sound (P := P) hti hv hok h3 (fun j e hj => let ⟨u, g1, g2, _⟩ := h4 j e hj; ⟨u, g1, g2⟩) hf
          rcases k2 with ⟨rfl, rfl⟩ | ⟨j, ue, rfl, g2, rfl⟩
          · simp only [Option.bind_eq_bind, Option.bind_eq_some_iff] at he
            obtain ⟨z, hz, c, hc, he⟩ := he
            cases he
            refine ⟨_, w, ?_, leaves_val hr (okR_V (b := false) (ofVal_sound hc))⟩
            simp only [Instr.lookup, Sem.run_bind, run_und hti hund, Result.andThen_ok, MapKept.run_getObj_map h2, Sem.run_pure, hck, k1, run_zero hti hz]
          · simp only [Option.map_eq_some_iff] at he
            obtain ⟨e', he', rfl⟩ := he
            obtain ⟨u', g3, g4, g5, g6⟩ := h4 j e' he'
            rw [g2] at g3
            cases g3
            refine ⟨_, w, ?_, leaves_val hr (okR_V (b := true) g5)⟩
            simp only [Instr.lookup, Sem.run_bind, run_und hti hund, Result.andThen_ok, MapKept.run_getObj_map h2, Sem.run_pure, hck, k1]
      · cases he
    · cases he
  · cases he

theorem sameL_sound {x y : AV} {u v : Value} (hs : sameL x y = true) (hx : V σ h w x u) (hy : V σ h w y v) : Instr.sameBits 9999 u v = true := by
  unfold sameL at hs
  split at hs
  · cases hx; cases hy; exact hs
  · cases hs

theorem sameB_sound {x y : AV} {u v : Value} (hs : sameB x y = true) (hx : V σ h w x u) (hy : V σ h w y v) : Instr.sameBits 10000 u v = true := by
  unfold sameB at hs
  split at hs
  · rename_i xs ys
    obtain ⟨us, rfl, px⟩ := parts_of hx
    obtain ⟨vs, rfl, py⟩ := parts_of hy
    simp only [Bool.and_eq_true, beq_iff_eq] at hs
    show (us.size == vs.size && (us.toList.zip vs.toList).all fun (x, y) => Instr.sameBits 9999 x y) = true
    simp only [Bool.and_eq_true, beq_iff_eq, px.1, py.1, hs.1, true_and]
    refine List.all_eq_true.2 fun p hp => ?_
    obtain ⟨i, hi⟩ := List.mem_iff_getElem?.1 hp
    rw [List.getElem?_zip_eq_some] at hi
    obtain ⟨i1, i2⟩ := hi
    have l1 : i < xs.length := by rw [← px.1]; simpa using (List.getElem?_eq_some_iff.1 i1).1
    have l2 : i < ys.length := by rw [← py.1]; simpa using (List.getElem?_eq_some_iff.1 i2).1
    have hz : (xs.zip ys)[i]? = some (xs[i], ys[i]) := by rw [List.getElem?_zip_eq_some]; exact ⟨List.getElem?_eq_getElem l1, List.getElem?_eq_getElem l2⟩
    have := List.all_eq_true.1 hs.2 _ (List.mem_of_getElem? hz)
    exact sameL_sound this (px.2.2 i _ _ (List.getElem?_eq_getElem l1) (by simpa using i1)) (py.2.2 i _ _ (List.getElem?_eq_getElem l2) (by simpa using i2))
  · cases hx; cases hy; exact hs
  · cases hs

theorem run_stays {old new : Value} (hs : Instr.sameBits 10000 old new = true) (w : World) : (Instr.keyThatStays old new).run P w = .ok new w := by
  simp [Instr.keyThatStays, hs]

/-- The entries are written. -/
theorem map_write (hr : RH σ h w) {id b : Nat} {es es' : List (AV × AV × Nat)} {clock clock' : Nat} {arr arr' : Array MapEntry} (hm : h.m (.blk id) = .map es clock) (hb : σ.ρ (.blk id) = some b) (hh : w.heap[b]? = some (.map arr clock))
    (hl : arr'.size = es'.length) (hv : ∀ (i : Nat) e, es'[i]? = some e → ∃ u, arr'[i]? = some u ∧ V σ h w e.1 u.key ∧ V σ h w e.2.1 u.val ∧ u.born = e.2.2) :
    (setObj b (.map arr' clock')).run P w = .ok () (w.putObj b (.map arr' clock')) ∧ Ext σ h w σ (h.set (.blk id) (.map es' clock')) (w.putObj b (.map arr' clock')) ∧ RH σ (h.set (.blk id) (.map es' clock')) (w.putObj b (.map arr' clock')) := by
  obtain ⟨x1, x2⟩ := RH.setO (x := .map es' clock') (o' := .map arr' clock') hr (l := .blk id) (by rw [hm]; simp) hb hh (by simp) rfl (by rw [hm]; rfl) ⟨rfl, hl, hv⟩
  exact ⟨MapKept.run_setObj_map _ hh, x1, x2⟩

theorem entries_set {es : List (AV × AV × Nat)} {arr : Array MapEntry} (hl : arr.size = es.length) (hv : ∀ (i : Nat) e, es[i]? = some e → ∃ u, arr[i]? = some u ∧ V σ h w e.1 u.key ∧ V σ h w e.2.1 u.val ∧ u.born = e.2.2)
    (j : Nat) (f : MapEntry → MapEntry) (e' : AV × AV × Nat) (hf : ∀ u, arr[j]? = some u → V σ h w e'.1 (f u).key ∧ V σ h w e'.2.1 (f u).val ∧ (f u).born = e'.2.2) :
    (arr.modify j f).size = (es.set j e').length ∧ ∀ (i : Nat) e, (es.set j e')[i]? = some e → ∃ u, (arr.modify j f)[i]? = some u ∧ V σ h w e.1 u.key ∧ V σ h w e.2.1 u.val ∧ u.born = e.2.2 := by
  refine ⟨by simp [hl], fun i e hi => ?_⟩
  rw [List.getElem?_set] at hi
  by_cases hij : j = i
  · subst hij
    rw [if_pos rfl] at hi
    split at hi
    · rename_i hlt
      cases hi
      have hu : arr[j]? = some (arr[j]'(by omega)) := Array.getElem?_eq_getElem _
      exact ⟨f _, by simp [Array.getElem?_modify, hu], hf _ hu⟩
    · cases hi
  · rw [if_neg hij] at hi
    obtain ⟨u, h1, h2⟩ := hv i e hi
    exact ⟨u, by simp [Array.getElem?_modify, hij, h1], h2⟩

theorem entries_push {es : List (AV × AV × Nat)} {arr : Array MapEntry} (hl : arr.size = es.length) (hv : ∀ (i : Nat) e, es[i]? = some e → ∃ u, arr[i]? = some u ∧ V σ h w e.1 u.key ∧ V σ h w e.2.1 u.val ∧ u.born = e.2.2)
    (u : MapEntry) (e' : AV × AV × Nat) (hf : V σ h w e'.1 u.key ∧ V σ h w e'.2.1 u.val ∧ u.born = e'.2.2) :
    (arr.push u).size = (es ++ [e']).length ∧ ∀ (i : Nat) e, (es ++ [e'])[i]? = some e → ∃ u', (arr.push u)[i]? = some u' ∧ V σ h w e.1 u'.key ∧ V σ h w e.2.1 u'.val ∧ u'.born = e.2.2 := by
  refine ⟨by simp [hl], fun i e hi => ?_⟩
  rw [List.getElem?_append] at hi
  split at hi
  · obtain ⟨u', h1, h2⟩ := hv i e hi
    refine ⟨u', ?_, h2⟩
    rw [Array.getElem?_push, if_neg (by omega)]
    exact h1
  · rename_i hlt
    have hi0 : i = es.length := by
      have := (List.getElem?_eq_some_iff.1 hi).1
      simp at this
      omega
    subst hi0
    simp at hi
    subst hi
    exact ⟨u, by rw [← hl]; simp, hf⟩

theorem aMapSet_sound (hti : TIok P ti) (hr : RH σ h w) {k : Nat} {d : Option Nat} {t : TypeId} {x y z : AV} {u v r : Value} {e : Eff} (he : aMapSet ti h.m t x y z = some e) (hu : V σ h w x u) (hv : V σ h w y v) (hz : V σ h w z r) :
    ∃ w', (Instr.mapUpdate t u v r).run P w = .ok () w' ∧ e.Leaves σ h w k d undef w' := by
  unfold aMapSet at he
  simp only [Option.bind_eq_bind, Option.bind_eq_some_iff, Prod.exists] at he
  obtain ⟨kt, et, ht, he⟩ := he
  split at he
  · rename_i id
    split at he
    · rename_i es clock hm
      split at he
      · rename_i hok
        obtain ⟨b, arr, rfl, h1, h2, h3, h4⟩ := map_at hr hm hu
        have hck := keyOk_sound (P := P) hti hok hv false
        have hund := mapT_und ht
        cases hf : findK ti kt y es 0 with
        | none => rw [hf] at he; cases he
        | some q =>
          rw [hf] at he
          obtain ⟨q, k1, k2⟩ := findKey_sound (P := P) hti hv hok h3 (fun j e hj => let ⟨u, g1, g2, _⟩ := h4 j e hj; ⟨u, g1, g2⟩) hf
          rcases k2 with ⟨rfl, rfl⟩ | ⟨j, ue, rfl, g2, rfl⟩
          · simp only [Option.some.injEq] at he
            subst he
            obtain ⟨m1, m2⟩ := entries_push h3 h4 { key := v, val := r, born := clock } (y, z, clock) ⟨hv, hz, rfl⟩
            obtain ⟨w1, w2, w3⟩ := map_write (P := P) (clock' := clock + 1) hr hm h1 h2 m1 m2
            refine ⟨_, ?_, ⟨σ, w2, w3, .lit _, fun _ => rfl⟩⟩
            simp only [Instr.mapUpdate, Sem.run_bind, run_und hti hund, Result.andThen_ok, MapKept.run_getObj_map h2, hck, k1]
            exact w1
          · simp only [] at he
            split at he
            · rename_i e' he'
              split at he
              · rename_i hsame
                cases he
                obtain ⟨u', g3, g4, g5, g6⟩ := h4 j e' he'
                rw [g2] at g3
                cases g3
                have hst := run_stays (P := P) (sameB_sound hsame g4 hv) w
                obtain ⟨m1, m2⟩ := entries_set h3 h4 j (fun e => { e with key := v, val := r }) (y, z, e'.2.2) (fun u hu => by rw [g2] at hu; cases hu; exact ⟨hv, hz, g6⟩)
                obtain ⟨w1, w2, w3⟩ := map_write (P := P) (clock' := clock) hr hm h1 h2 m1 m2
                refine ⟨_, ?_, ⟨σ, w2, w3, .lit _, fun _ => rfl⟩⟩
                simp only [Instr.mapUpdate, Sem.run_bind, run_und hti hund, Result.andThen_ok, MapKept.run_getObj_map h2, hck, k1, g2, Option.map_some, Option.getD_some, hst]
                exact w1
              · cases he
            · cases he
      · cases he
    · cases he
  · cases he

theorem tup2_V {c c' : AV} {v v' : Value} (h1 : V σ h w c v) (h2 : V σ h w c' v') : V σ h w (.tup [c, c']) (.tuple #[v, v']) := by
  refine .tup rfl fun i x u hi hu => ?_
  match i with
  | 0 => simp at hi hu; subst hi hu; exact h1
  | 1 => simp at hi hu; subst hi hu; exact h2
  | i + 2 => simp at hi

theorem aMapEntry_sound (hti : TIok P ti) (hr : RH σ h w) {k : Nat} {d : Option Nat} {t : TypeId} {x y : AV} {u v : Value} {e : Eff} (he : aMapEntry ti h.m t x y = some e) (hu : V σ h w x u) (hv : V σ h w y v) :
    ∃ r w', (Instr.mapEntry t u v).run P w = .ok r w' ∧ e.Leaves σ h w k d r w' := by
  unfold aMapEntry at he
  simp only [Option.bind_eq_bind, Option.bind_eq_some_iff, Prod.exists] at he
  obtain ⟨kt, et, ht, he⟩ := he
  split at he
  · rename_i id
    split at he
    · rename_i es clock hm
      split at he
      · rename_i hok
        obtain ⟨b, arr, rfl, h1, h2, h3, h4⟩ := map_at hr hm hu
        have hck := keyOk_sound (P := P) hti hok hv false
        have hund := mapT_und ht
        cases hf : findK ti kt y es 0 with
        | none => rw [hf] at he; cases he
        | some q =>
          rw [hf] at he
          obtain ⟨q, k1, k2⟩ := findKey_sound (P := P) hti hv hok h3 (fun j e hj => let ⟨u, g1, g2, _⟩ := h4 j e hj; ⟨u, g1, g2⟩) hf
          rcases k2 with ⟨rfl, rfl⟩ | ⟨j, ue, rfl, g2, rfl⟩
          · simp only [Option.bind_eq_bind, Option.bind_eq_some_iff] at he
            obtain ⟨z, hz, c, hc, he⟩ := he
            cases he
            have hcv := ofVal_sound (σ := σ) (h := h) (w := w) hc
            obtain ⟨m1, m2⟩ := entries_push h3 h4 { key := v, val := z, born := clock } (y, c, clock) ⟨hv, hcv, rfl⟩
            obtain ⟨w1, w2, w3⟩ := map_write (P := P) (clock' := clock + 1) hr hm h1 h2 m1 m2
            refine ⟨.tuple #[z, goInt clock], _, ?_, ⟨σ, w2, w3, ?_, fun _ => rfl⟩⟩
            · simp only [Instr.mapEntry, Sem.run_bind, run_und hti hund, Result.andThen_ok, MapKept.run_getObj_map h2, hck, k1, run_zero hti hz, w1, Sem.run_pure]
            · exact (tup2_V hcv (.lit _)).ext w2 hr
          · simp only [] at he
            split at he
            · rename_i e' he'
              split at he
              · rename_i hsame
                cases he
                obtain ⟨u', g3, g4, g5, g6⟩ := h4 j e' he'
                rw [g2] at g3
                cases g3
                have hst := run_stays (P := P) (sameB_sound hsame g4 hv) w
                obtain ⟨m1, m2⟩ := entries_set h3 h4 j (fun e => { e with key := v }) (y, e'.2.1, e'.2.2) (fun u hu => by rw [g2] at hu; cases hu; exact ⟨hv, g5, g6⟩)
                obtain ⟨w1, w2, w3⟩ := map_write (P := P) (clock' := clock) hr hm h1 h2 m1 m2
                refine ⟨.tuple #[ue.val, goInt ue.born], _, ?_, ⟨σ, w2, w3, ?_, fun _ => rfl⟩⟩
                · simp only [Instr.mapEntry, Sem.run_bind, run_und hti hund, Result.andThen_ok, MapKept.run_getObj_map h2, hck, k1, g2, Option.map_some, Option.getD_some, hst, w1, Sem.run_pure]
                · rw [g6]; exact (tup2_V g5 (.lit _)).ext w2 hr
              · cases he
            · cases he
      · cases he
    · cases he
  · cases he

theorem findIdx_entries : ∀ (es : List (AV × AV × Nat)) (us : List MapEntry) (n : Int), us.length = es.length → (∀ (i : Nat) e, es[i]? = some e → ∃ u, us[i]? = some u ∧ u.born = e.2.2) →
    us.findIdx? (fun e => (e.born : Int) == n) = es.findIdx? (fun e => (e.2.2 : Int) == n)
  | [], us, n, hl, _ => by
    have : us = [] := List.eq_nil_of_length_eq_zero hl
    subst this
    rfl
  | e :: es, [], n, hl, _ => by simp at hl
  | e :: es, u :: us, n, hl, hv => by
    obtain ⟨u', h1, h2⟩ := hv 0 e rfl
    simp only [List.getElem?_cons_zero, Option.some.injEq] at h1
    subst h1
    simp only [List.findIdx?_cons, h2]
    rw [findIdx_entries es us n (by simpa using hl) fun i e' hi => by simpa using hv (i + 1) e' (by simpa using hi)]

theorem aEntrySet_sound (hr : RH σ h w) {k : Nat} {d : Option Nat} {t : TypeId} {x y z : AV} {u v r : Value} {e : Eff} (he : aEntrySet h.m x y z = some e) (hu : V σ h w x u) (hv : V σ h w y v) (hz : V σ h w z r) :
    ∃ w', (Instr.entryStore t u v r).run P w = .ok () w' ∧ e.Leaves σ h w k d undef w' := by
  unfold aEntrySet at he
  split at he
  · rename_i id kk n
    split at he
    · rename_i es clock hm
      obtain ⟨b, arr, rfl, h1, h2, h3, h4⟩ := map_at hr hm hu
      split at he
      · rename_i i hi
        split at he
        · rename_i e' he'
          cases he
          cases hv
          have hidx : arr.findIdx? (fun e => (e.born : Int) == n) = some i := by
            rw [show arr.findIdx? (fun e => (e.born : Int) == n) = arr.toList.findIdx? (fun e => (e.born : Int) == n) from by cases arr; simp, findIdx_entries es arr.toList n (by simpa using h3) fun i e hi => let ⟨u, g1, g2, g3, g4⟩ := h4 i e hi; ⟨u, by simpa using g1, g4⟩]
            exact hi
          obtain ⟨m1, m2⟩ := entries_set h3 h4 i (fun e => { e with val := r }) (e'.1, z, e'.2.2) (fun u hu => by
            obtain ⟨u', g1, g2, g3, g4⟩ := h4 i e' he'
            rw [hu] at g1
            cases g1
            exact ⟨g2, hz, g4⟩)
          obtain ⟨w1, w2, w3⟩ := map_write (P := P) (clock' := clock) hr hm h1 h2 m1 m2
          refine ⟨_, ?_, ⟨σ, w2, w3, .lit _, fun _ => rfl⟩⟩
          simp only [Instr.entryStore, Sem.run_bind, Sem.run_pure, Result.andThen_ok, MapKept.run_getObj_map h2, asInt, asIntOf, hidx]
          exact w1
        · cases he
      · cases he
    · cases he
  · cases he

theorem makeMap_sound (hr : RH σ h w) {k : Nat} (hk : ¬ h.al k) {d : Option Nat} (t : TypeId) :
    ∃ r w', (Instr.makeMap t none).run P w = .ok r w' ∧ (Eff.nw (.map k) [] (.map [] 0)).Leaves σ h w k d r w' := by
  obtain ⟨x1, x2⟩ := RH.allocO (x := .map [] 0) (o := .map #[] 0) hr hk ⟨rfl, rfl, fun i e hi => by simp at hi⟩
  refine ⟨.map (some w.heap.size), _, ?_, ⟨_, x1, x2, .map (by simp [Eff.hp, AObj.stamp]) (.inr rfl) (Sim.set_same _ _ _), fun s => Sim.set_other _ _ (by simp)⟩⟩
  simp [Instr.makeMap]

theorem makeMapR_sound (hti : TIok P ti) (hr : RH σ h w) {k : Nat} (hk : ¬ h.al k) {d : Option Nat} {t : TypeId} {p : TypeId × TypeId} (ht : mapT ti t = some p) (kk : IntKind) (n : Int) :
    ∃ r w', (Instr.makeMap t (some (.int kk n))).run P w = .ok r w' ∧ (Eff.nw (.map k) [] (.map [] 0)).Leaves σ h w k d r w' := by
  obtain ⟨x1, x2⟩ := RH.allocO (x := .map [] 0) (o := .map #[] 0) hr hk ⟨rfl, rfl, fun i e hi => by simp at hi⟩
  refine ⟨.map (some w.heap.size), _, ?_, ⟨_, x1, x2, .map (by simp [Eff.hp, AObj.stamp]) (.inr rfl) (Sim.set_same _ _ _), fun s => Sim.set_other _ _ (by simp)⟩⟩
  simp [Instr.makeMap, run_und hti (mapT_und (kt := p.1) (et := p.2) ht), asInt, asIntOf]
end
end Go.Proofs.Ytmmabdpmeijgmaa.AM
