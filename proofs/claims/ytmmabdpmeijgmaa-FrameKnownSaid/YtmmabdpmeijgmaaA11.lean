/- An operation of a region, whichever it is. -/
import Derived.Test.YtmmabdpmeijgmaaA10B
namespace Go.Proofs.Ytmmabdpmeijgmaa.AM
open Go

def isIface (ti : TI) (t : TypeId) : Bool :=
  match ti.und t with
  | some (.interface _) => true
  | some _ => false
  | none => true

def aAssert (ti : TI) (x : AV) (at_ : TypeId) (ok : Bool) : Option AV :=
  match x with
  | .ifc t v => if isIface ti at_ = false ∧ t = at_ then some (if ok then .tup [v, .lit (.bool true)] else v) else none
  | _ => none

def evs (tmps : List AV) (xs : Array Operand) : Option (List AV) := xs.toList.mapM (evT tmps)
def evParts (tmps : List AV) (xs : Array (Nat × Operand)) : Option (List (Nat × AV)) := xs.toList.mapM fun p => (evT tmps p.2).map fun v => (p.1, v)
def evOpt (tmps : List AV) : Option Operand → Option (Option AV)
  | none => some none
  | some x => (evT tmps x).map some

def aNil (tmps : List AV) (x : Operand) : Option AV :=
  match evA tmps x with
  | some c => some c
  | none => match evT tmps x with
    | some (.fn (.func f) xs ys) => some (.fn (.func f) xs ys)
    | _ => none

def alive' (m : Loc → AObj) : AV → Bool
  | .ptr id _ st => (m (.blk id)).stamp == some st
  | _ => true

def aBuiltin (ti : TI) (m : Loc → AObj) (k : Nat) (b : Builtin) (ts : Array TypeId) (xs : List AV) : Option Eff :=
  match b with
  | .len => match ts.toList, xs with
    | [t], [x] => do
      let (n, rd) ← aLen m x
      if lenTy ti t x then some (.val (.lit (.int .i64 n)) rd) else none
    | _, _ => none
  | .append => match ts.toList, xs with
    | [t, t2], [x, y] => aAppend ti m k t t2 x y
    | _, _ => none
  | .copy => match ts.toList, xs with
    | [t, _], [x, y] => aCopy ti m t x y
    | _, _ => none
  | .clear => match ts.toList, xs with
    | [t], [x] => aClear ti m t x
    | _, _ => none
  | .max => (minmax true xs).map (.val · [])
  | .min => (minmax false xs).map (.val · [])
  | _ => none

def lcOf (loc : Nat → Bool) (o : Oper) : Bool :=
  match o.dst with
  | some d => loc d
  | none => false

def aop (ti : TI) (loc : Nat → Bool) (tmps : List AV) (m : Loc → AObj) (k : Nat) (o : Oper) : Option Eff :=
  match o.op with
  | .move x => (evT tmps x).map (.val · [])
  | .assign x => (evT tmps x).map (.val · [])
  | .pick c a b =>
    match evT tmps c with
    | some (.lit (.bool true)) => (evT tmps a).map (.val · [])
    | some (.lit (.bool false)) => (evT tmps b).map (.val · [])
    | _ => none
  | .alloc e => aAlloc ti (lcOf loc o) k e
  | .box _ x => do aBox (lcOf loc o) k (← evT tmps x)
  | .build t ps => do (aBuild ti t (← evParts tmps ps)).map (.val · [])
  | .buildSlice t n ps => do aBuildSlice ti k t n (← evParts tmps ps)
  | .load t ad => do aLoad ti m t (← evA tmps ad)
  | .store t ad x => do aStore ti m t (← evA tmps ad) (← evT tmps x)
  | .nilCheck x => do
    let c ← aNil tmps x
    if alive' m c then some (.val c (locs c)) else none
  | .binOp op t x y _ => do aBinM ti m t op (← evT tmps x) (← evT tmps y)
  | .unOp op _ x => do (aUn op (← evT tmps x)).map fun v => .val (.lit v) []
  | .convert s t x => do aConvert ti m k s t (← evT tmps x)
  | .makeInterface t x => do if isIface ti t then none else some (.val (.ifc t (← evT tmps x)) [])
  | .makeFunc f xs ys => do some (.val (.fn f (← evs tmps xs) (← evs tmps ys)) [])
  | .makeSlice t l c => do aMake ti k t (← evT tmps l) (← evT tmps c)
  | .slice t x lo hi mx =>
    if (arrOf ti t).isSome then
      match mx with
      | none => do
        let c ← evA tmps x
        (aSliceArr ti m t c (← evOpt tmps lo) (← evOpt tmps hi)).map fun v => .val v (locs c)
      | some _ => none
    else do
      let c ← evT tmps x
      (aSliceOp ti m t c (← evOpt tmps lo) (← evOpt tmps hi) (← evOpt tmps mx)).map fun v => .val v (match c with | .slc id _ _ _ _ => [.blk id] | _ => [])
  | .fieldAddr t x f => do
    let c ← evA tmps x
    (aFieldAddr ti m t c f).map fun v => .val v (locs c)
  | .field t x f => do (aField ti t (← evT tmps x) f).map (.val · [])
  | .indexAddr t x ix =>
    if (arrOf ti t).isSome then do
      let c ← evA tmps x
      (aIndexArr ti m t c (← evT tmps ix)).map fun v => .val v (locs c)
    else do
      let c ← evT tmps x
      (aIndexSl ti m t c (← evT tmps ix)).map fun v => .val v (match c with | .slc id _ _ _ _ => [.blk id] | _ => [])
  | .index t x ix => do (aIndex ti t (← evT tmps x) (← evT tmps ix)).map (.val · [])
  | .extract x i => do (aExtract (← evT tmps x) i).map (.val · [])
  | .typeAssert x _ at_ ok => do (aAssert ti (← evT tmps x) at_ ok).map (.val · [])
  | .makeMap t r => match r with
    | none => some (.nw (.map k) [] (.map [] 0))
    | some x => match evT tmps x, mapT ti t with
      | some (.lit (.int _ _)), some _ => some (.nw (.map k) [] (.map [] 0))
      | _, _ => none
  | .lookup t x ix ok => do aLookup ti m t (← evT tmps x) (← evT tmps ix) ok
  | .mapUpdate t x ix v => do aMapSet ti m t (← evT tmps x) (← evT tmps ix) (← evT tmps v)
  | .insert t x ix v => do aMapSet ti m t (← evT tmps x) (← evT tmps ix) (← evT tmps v)
  | .mapEntry t x ix => do aMapEntry ti m t (← evT tmps x) (← evT tmps ix)
  | .entryStore _ x s v => do aEntrySet m (← evT tmps x) (← evT tmps s) (← evT tmps v)
  | .call { callee := .builtin b, args, argTypes } => do aBuiltin ti m k b argTypes (← evs tmps args)
  | _ => none

section
variable {σ σ' : Sim} {h h' : Hp} {w w' : World} {P : Program} {ti : TI} {tmps : List AV} {a : Act}

theorem mapM_len {α β : Type} {f : α → Option β} : ∀ (xs : List α) (ys : List β), xs.mapM f = some ys → ys.length = xs.length ∧ ∀ (i : Nat) y, ys[i]? = some y → ∃ x, xs[i]? = some x ∧ f x = some y
  | [], ys, h => by simp at h; subst h; exact ⟨rfl, fun i y hy => by simp at hy⟩
  | x :: xs, ys, h => by
    simp only [List.mapM_cons, Option.bind_eq_bind, Option.bind_eq_some_iff] at h
    obtain ⟨y, hy, ys', hys, h⟩ := h
    cases h
    obtain ⟨h1, h2⟩ := mapM_len xs ys' hys
    refine ⟨by simp [h1], fun i z hz => ?_⟩
    match i with
    | 0 => simp at hz; subst hz; exact ⟨x, rfl, hy⟩
    | i + 1 => exact h2 i z (by simpa using hz)

theorem evs_sound (hr : RF σ h w tmps a) {xs : Array Operand} {vs : List AV} (he : evs tmps xs = some vs) : (xs.map a.eval).size = vs.length ∧ ∀ (i : Nat) v u, vs[i]? = some v → (xs.map a.eval)[i]? = some u → V σ h w v u := by
  obtain ⟨h1, h2⟩ := mapM_len _ _ he
  refine ⟨by simp [h1], fun i v u hv hu => ?_⟩
  obtain ⟨x, hx, hxe⟩ := h2 i v hv
  rw [Array.getElem?_toList] at hx
  rw [Array.getElem?_map, hx] at hu
  cases hu
  exact evT_sound hr hxe

theorem evParts_sound (hr : RF σ h w tmps a) {xs : Array (Nat × Operand)} {vs : List (Nat × AV)} (he : evParts tmps xs = some vs) :
    (xs.map fun (i, x) => (i, a.eval x)).size = vs.length ∧ ∀ (i : Nat) p u, vs[i]? = some p → (xs.map fun (i, x) => (i, a.eval x))[i]? = some u → u.1 = p.1 ∧ V σ h w p.2 u.2 := by
  obtain ⟨h1, h2⟩ := mapM_len _ _ he
  refine ⟨by simp [h1], fun i v u hv hu => ?_⟩
  obtain ⟨x, hx, hxe⟩ := h2 i v hv
  rw [Array.getElem?_toList] at hx
  rw [Array.getElem?_map, hx] at hu
  cases hu
  simp only [Option.map_eq_some_iff] at hxe
  obtain ⟨v', hv', rfl⟩ := hxe
  exact ⟨rfl, evT_sound hr hv'⟩

theorem evOpt_sound (hr : RF σ h w tmps a) {x : Option Operand} {v : Option AV} (he : evOpt tmps x = some v) : OptV σ h w v (x.map a.eval) := by
  cases x with
  | none => simp [evOpt] at he; subst he; exact ⟨fun c hc => (by cases hc), fun _ => rfl⟩
  | some x =>
    simp only [evOpt, Option.map_eq_some_iff] at he
    obtain ⟨c, hc, rfl⟩ := he
    exact ⟨fun c' hc' => (by cases hc'; exact ⟨_, rfl, evT_sound hr hc⟩), fun hn => (by cases hn)⟩

/-- What the machine does at an operation. -/
def Does (P : Program) (o : Oper) (a : Act) (w : World) (r : Value) (w' : World) : Prop :=
  (execOp a.eval o).run P w = .ok (.value r) w' ∨ ((execOp a.eval o).run P w = .ok .skip w' ∧ r = undef)

theorem leaves_va (hr : RH σ h w) {k : Nat} {d : Option Nat} {v : AV} {rd : List Loc} {r : Value} (hv : VA σ h w v r) : (Eff.val v rd).Leaves σ h w k d r w :=
  ⟨σ, Ext.refl _ _ _, hr, hv, fun _ => rfl⟩

theorem aBuiltin_sound (hti : TIok P ti) (hr : RF σ h w tmps a) {k : Nat} (hk : ¬ h.al k) {d : Option Nat} {b : Builtin} {ts : Array TypeId} {ty : TypeId} {xs : List AV} {us : Array Value} {e : Eff} {cs : Array Bool}
    (he : aBuiltin ti h.m k b ts xs = some e) (hl : us.size = xs.length) (hv : ∀ (i : Nat) x u, xs[i]? = some x → us[i]? = some u → V σ h w x u) :
    ∃ r w', (builtin b ts ty cs us).run P w = .ok (.value r) w' ∧ e.Leaves σ h w k d r w' := by
  unfold aBuiltin at he
  split at he
  · split at he
    · rename_i t x h1
      simp only [Option.bind_eq_bind, Option.bind_eq_some_iff, Prod.exists] at he
      obtain ⟨n, rd, hn, he⟩ := he
      split at he
      · rename_i hty
        cases he
        have ht : ts = #[t] := by rw [← Array.toArray_toList (xs := ts), h1]
        obtain ⟨u, rfl⟩ : ∃ u, us = #[u] := by
          obtain ⟨l⟩ := us
          match l, hl with
          | [u], _ => exact ⟨u, rfl⟩
        subst ht
        refine ⟨goInt n, w, ?_, leaves_val hr.heap (.lit _)⟩
        simp only [builtin, Sem.run_bind, aLen_sound hti hn hty (hv 0 x u rfl rfl), Result.andThen_ok]
        rfl
      · cases he
    · cases he
  · split at he
    · rename_i t t2 x y h1
      have ht : ts = #[t, t2] := by rw [← Array.toArray_toList (xs := ts), h1]
      subst ht
      obtain ⟨u, v, rfl⟩ : ∃ u v, us = #[u, v] := by
        obtain ⟨l⟩ := us
        match l, hl with
        | [u, v], _ => exact ⟨u, v, rfl⟩
      obtain ⟨r, w', h2, h3⟩ := aAppend_sound (d := d) (ty := ty) hti hr.heap hk he (hv 0 x u rfl rfl) (hv 1 y v rfl rfl)
      refine ⟨r, w', ?_, h3⟩
      simp only [builtin, Sem.run_bind, h2, Result.andThen_ok]
      rfl
    · cases he
  · split at he
    · rename_i t t2 x y h1
      have ht : ts = #[t, t2] := by rw [← Array.toArray_toList (xs := ts), h1]
      subst ht
      obtain ⟨u, v, rfl⟩ : ∃ u v, us = #[u, v] := by
        obtain ⟨l⟩ := us
        match l, hl with
        | [u, v], _ => exact ⟨u, v, rfl⟩
      obtain ⟨r, w', h2, h3⟩ := aCopy_sound (k := k) (d := d) (t2 := t2) (ty := ty) hti hr.heap he (hv 0 x u rfl rfl) (hv 1 y v rfl rfl)
      refine ⟨r, w', ?_, h3⟩
      simp only [builtin, Sem.run_bind, h2, Result.andThen_ok]
      rfl
    · cases he
  · split at he
    · rename_i t x h1
      have ht : ts = #[t] := by rw [← Array.toArray_toList (xs := ts), h1]
      subst ht
      obtain ⟨u, rfl⟩ : ∃ u, us = #[u] := by
        obtain ⟨l⟩ := us
        match l, hl with
        | [u], _ => exact ⟨u, rfl⟩
      obtain ⟨r, w', h2, h3⟩ := aClear_sound (k := k) (d := d) (ty := ty) hti hr.heap he (hv 0 x u rfl rfl)
      refine ⟨r, w', ?_, h3⟩
      simp only [builtin, Sem.run_bind, h2, Result.andThen_ok]
      rfl
    · cases he
  · simp only [Option.map_eq_some_iff] at he
    obtain ⟨c, hc, rfl⟩ := he
    obtain ⟨r, h2, h3⟩ := minmax_sound (P := P) hc hl hv ts ty
    refine ⟨r, w, ?_, leaves_val hr.heap h3⟩
    simp only [if_true] at h2
    simp only [builtin, Sem.run_bind, h2, Result.andThen_ok]
    rfl
  · simp only [Option.map_eq_some_iff] at he
    obtain ⟨c, hc, rfl⟩ := he
    obtain ⟨r, h2, h3⟩ := minmax_sound (P := P) hc hl hv ts ty
    refine ⟨r, w, ?_, leaves_val hr.heap h3⟩
    simp only [Bool.false_eq_true, if_false] at h2
    simp only [builtin, Sem.run_bind, h2, Result.andThen_ok]
    rfl
  · cases he

theorem aop_sound (hti : TIok P ti) (hr : RF σ h w tmps a) {loc : Nat → Bool} {k : Nat} (hk : ¬ h.al k) {o : Oper} {e : Eff} (he : aop ti loc tmps h.m k o = some e) :
    ∃ r w', Does P o a w r w' ∧ e.Leaves σ h w k o.dst r w' := by
  have hd : lcOf loc o = true → o.dst.isSome = true := by unfold lcOf; cases o.dst <;> simp
  have one : ∀ {s : Sem Value} {r : Value} {w' : World}, s.run P w = .ok r w' → (do pure (Next.value (← s)) : Sem Next).run P w = .ok (.value r) w' := fun {s r w'} hs => by simp [hs]
  unfold aop at he
  unfold Does
  split at he
  all_goals first | (rename_i hop; unfold execOp; rw [hop]) | (cases he; done)
  · -- move
    rename_i x
    simp only [Option.map_eq_some_iff] at he
    obtain ⟨c, hc, rfl⟩ := he
    exact ⟨_, w, .inl rfl, leaves_val hr.heap (evT_sound hr hc)⟩
  · -- assign
    rename_i x
    simp only [Option.map_eq_some_iff] at he
    obtain ⟨c, hc, rfl⟩ := he
    exact ⟨_, w, .inl rfl, leaves_val hr.heap (evT_sound hr hc)⟩
  · -- pick
    rename_i c x y
    split at he
    · rename_i hc
      have h0 := evT_sound hr hc
      have hcv : a.eval c = .bool true := by
        generalize a.eval c = u at h0
        cases h0
        rfl
      simp only [Option.map_eq_some_iff] at he
      obtain ⟨c', hc', rfl⟩ := he
      exact ⟨a.eval x, w, .inl (by simp [asBool, hcv]), leaves_val hr.heap (evT_sound hr hc')⟩
    · rename_i hc
      have h0 := evT_sound hr hc
      have hcv : a.eval c = .bool false := by
        generalize a.eval c = u at h0
        cases h0
        rfl
      simp only [Option.map_eq_some_iff] at he
      obtain ⟨c', hc', rfl⟩ := he
      exact ⟨a.eval y, w, .inl (by simp [asBool, hcv]), leaves_val hr.heap (evT_sound hr hc')⟩
    · cases he
  · -- alloc
    obtain ⟨r, w', h1, h2⟩ := aAlloc_sound hti hr.heap hk hd he (.tuple #[])
    exact ⟨r, w', .inl (one h1), h2⟩
  · -- box
    rename_i t x
    simp only [Option.bind_eq_bind, Option.bind_eq_some_iff] at he
    obtain ⟨c, hc, he⟩ := he
    obtain ⟨r, w', h1, h2⟩ := aBox_sound (P := P) (t := t) hr.heap hk hd he (evT_sound hr hc)
    exact ⟨r, w', .inl (one h1), h2⟩
  · -- build
    simp only [Option.bind_eq_bind, Option.bind_eq_some_iff, Option.map_eq_some_iff] at he
    obtain ⟨ps, hps, c, hc, rfl⟩ := he
    obtain ⟨h1, h2⟩ := evParts_sound hr hps
    obtain ⟨r, h3, h4⟩ := aBuild_sound hti hc h1 h2
    exact ⟨r, w, .inl (one h3), leaves_val hr.heap h4⟩
  · -- buildSlice
    simp only [Option.bind_eq_bind, Option.bind_eq_some_iff] at he
    obtain ⟨ps, hps, he⟩ := he
    obtain ⟨h1, h2⟩ := evParts_sound hr hps
    obtain ⟨r, w', h3, h4⟩ := aBuildSlice_sound (d := o.dst) hti hr.heap hk he h1 h2
    exact ⟨r, w', .inl (one h3), h4⟩
  · -- load
    simp only [Option.bind_eq_bind, Option.bind_eq_some_iff] at he
    obtain ⟨ad, had, he⟩ := he
    obtain ⟨v, h1, h2⟩ := aLoad_sound hti hr.heap he (evA_sound hr had)
    refine ⟨v, w, .inl (one h1), ?_⟩
    unfold aLoad at he
    simp only [Option.bind_eq_bind, Option.bind_eq_some_iff, Prod.exists] at he
    obtain ⟨_, _, _, _, _, _, _, _, _, he⟩ := he
    cases he
    exact leaves_val hr.heap h2
  · -- store
    simp only [Option.bind_eq_bind, Option.bind_eq_some_iff] at he
    obtain ⟨ad, had, x, hx, he⟩ := he
    obtain ⟨w', h1, h2⟩ := aStore_sound (k := k) (d := o.dst) hti hr.heap he (evA_sound hr had) (evT_sound hr hx)
    refine ⟨undef, w', .inr ⟨?_, rfl⟩, h2⟩
    simp only [Sem.run_bind, h1, Result.andThen_ok]
    rfl
  · -- nilCheck
    rename_i x
    simp only [Option.bind_eq_bind, Option.bind_eq_some_iff] at he
    obtain ⟨c, hc, he⟩ := he
    split at he
    · rename_i hal
      cases he
      unfold aNil at hc
      split at hc
      · rename_i c' hA
        cases hc
        have h0 := evA_sound hr hA
        have hp : ∃ ar, a.eval x = .pointer (some ar) := by
          cases c with
          | lptr s off => obtain ⟨b, _, hb⟩ := h0; exact ⟨_, hb⟩
          | ptr id off st =>
            simp only [VA] at h0
            generalize a.eval x = u at h0
            cases h0 with
            | ptr => exact ⟨_, rfl⟩
            | ptrS k1 k2 k3 =>
              have := k3 st (by simpa [alive'] using hal)
              omega
          | rptr cs =>
            simp only [VA] at h0
            generalize a.eval x = u at h0
            cases h0
            exact ⟨_, rfl⟩
          | _ => cases x <;> simp [evA] at hA; (split at hA <;> cases hA)
        obtain ⟨ar, har⟩ := hp
        exact ⟨a.eval x, w, .inl (by simp [har]), leaves_va hr.heap h0⟩
      · split at hc
        · rename_i f xs ys hT
          cases hc
          have h0 := evT_sound hr hT
          have hau : ∃ us vs, a.eval x = .func (.func f) us vs := by
            generalize a.eval x = u at h0
            cases h0
            exact ⟨_, _, rfl⟩
          obtain ⟨us, vs, hau⟩ := hau
          exact ⟨a.eval x, w, .inl (by simp [hau]), leaves_val hr.heap h0⟩
        · cases hc
    · cases he
  · -- binOp
    rename_i op t x y yt
    simp only [Option.bind_eq_bind, Option.bind_eq_some_iff, Option.map_eq_some_iff] at he
    obtain ⟨c, hc, d, hd', hv⟩ := he
    obtain ⟨v, rd, rfl, h1⟩ := aBinM_sound hti hv (evT_sound hr hc) (evT_sound hr hd') x y
    exact ⟨v, w, .inl (one h1), leaves_val hr.heap (.lit _)⟩
  · -- unOp
    simp only [Option.bind_eq_bind, Option.bind_eq_some_iff, Option.map_eq_some_iff] at he
    obtain ⟨c, hc, v, hv, rfl⟩ := he
    obtain ⟨h1, _⟩ := aUn_sound (P := P) hv (evT_sound hr hc)
    exact ⟨v, w, .inl (one h1), leaves_val hr.heap (.lit _)⟩
  · -- convert
    simp only [Option.bind_eq_bind, Option.bind_eq_some_iff] at he
    obtain ⟨c, hc, he⟩ := he
    obtain ⟨r, w', h1, h2⟩ := aConvert_sound (d := o.dst) hti hr.heap hk he (evT_sound hr hc)
    exact ⟨r, w', .inl (one h1), h2⟩
  · -- makeInterface
    rename_i t x
    split at he
    · cases he
    · rename_i hi
      simp only [Option.bind_eq_bind, Option.bind_eq_some_iff] at he
      obtain ⟨c, hc, he⟩ := he
      cases he
      unfold isIface at hi
      split at hi
      · exact absurd rfl hi
      · rename_i dsc hn ht
        refine ⟨.iface t (a.eval x), w, .inl (one ?_), leaves_val hr.heap (.ifc (evT_sound hr hc))⟩
        simp only [Instr.makeInterface, Sem.run_bind, run_und hti ht, Result.andThen_ok]
        cases dsc <;> first | rfl | exact absurd rfl (hn _)
      · exact absurd rfl hi
  · -- makeFunc
    rename_i f xs ys
    simp only [Option.bind_eq_bind, Option.bind_eq_some_iff] at he
    obtain ⟨vs, hvs, ws, hws, he⟩ := he
    cases he
    obtain ⟨h1, h2⟩ := evs_sound hr hvs
    obtain ⟨h3, h4⟩ := evs_sound hr hws
    exact ⟨_, w, .inl rfl, leaves_val hr.heap (.fn h1 h3 h2 h4)⟩
  · -- makeSlice
    simp only [Option.bind_eq_bind, Option.bind_eq_some_iff] at he
    obtain ⟨l, hl, c, hc, he⟩ := he
    obtain ⟨r, w', h1, h2⟩ := aMake_sound (d := o.dst) hti hr.heap hk he (evT_sound hr hl) (evT_sound hr hc)
    exact ⟨r, w', .inl (one h1), h2⟩
  · -- slice
    rename_i t x lo hi mx
    split at he
    · split at he
      · simp only [Option.bind_eq_bind, Option.bind_eq_some_iff, Option.map_eq_some_iff] at he
        obtain ⟨c, hc, l, hl, hh, hhh, v, hv, rfl⟩ := he
        obtain ⟨r, h1, h2⟩ := aSliceArr_sound hti hr.heap hv (evA_sound hr hc) (evOpt_sound hr hl) (evOpt_sound hr hhh)
        exact ⟨r, w, .inl (one h1), leaves_val hr.heap h2⟩
      · cases he
    · simp only [Option.bind_eq_bind, Option.bind_eq_some_iff, Option.map_eq_some_iff] at he
      obtain ⟨c, hc, l, hl, hh, hhh, mm, hmm, v, hv, rfl⟩ := he
      obtain ⟨r, h1, h2⟩ := aSliceOp_sound hti hv (evT_sound hr hc) (evOpt_sound hr hl) (evOpt_sound hr hhh) (evOpt_sound hr hmm)
      exact ⟨r, w, .inl (one h1), leaves_val hr.heap h2⟩
  · -- fieldAddr
    simp only [Option.bind_eq_bind, Option.bind_eq_some_iff, Option.map_eq_some_iff] at he
    obtain ⟨c, hc, v, hv, rfl⟩ := he
    obtain ⟨r, h1, h2⟩ := aFieldAddr_sound hti hv (evA_sound hr hc)
    exact ⟨r, w, .inl (one h1), leaves_va hr.heap h2⟩
  · -- field
    simp only [Option.bind_eq_bind, Option.bind_eq_some_iff, Option.map_eq_some_iff] at he
    obtain ⟨c, hc, v, hv, rfl⟩ := he
    obtain ⟨r, h1, h2⟩ := aField_sound hti hv (evT_sound hr hc)
    exact ⟨r, w, .inl (one h1), leaves_val hr.heap h2⟩
  · -- indexAddr
    split at he
    · simp only [Option.bind_eq_bind, Option.bind_eq_some_iff, Option.map_eq_some_iff] at he
      obtain ⟨c, hc, i, hi, v, hv, rfl⟩ := he
      obtain ⟨r, h1, h2⟩ := aIndexArr_sound hti hv (evA_sound hr hc) (evT_sound hr hi)
      exact ⟨r, w, .inl (one h1), leaves_va hr.heap h2⟩
    · simp only [Option.bind_eq_bind, Option.bind_eq_some_iff, Option.map_eq_some_iff] at he
      obtain ⟨c, hc, i, hi, v, hv, rfl⟩ := he
      obtain ⟨r, h1, h2⟩ := aIndexSl_sound hti hv (evT_sound hr hc) (evT_sound hr hi)
      exact ⟨r, w, .inl (one h1), leaves_val hr.heap h2⟩
  · -- index
    simp only [Option.bind_eq_bind, Option.bind_eq_some_iff, Option.map_eq_some_iff] at he
    obtain ⟨c, hc, i, hi, v, hv, rfl⟩ := he
    obtain ⟨r, h1, h2⟩ := aIndex_sound hti hv (evT_sound hr hc) (evT_sound hr hi)
    exact ⟨r, w, .inl (one h1), leaves_val hr.heap h2⟩
  · -- extract
    simp only [Option.bind_eq_bind, Option.bind_eq_some_iff, Option.map_eq_some_iff] at he
    obtain ⟨c, hc, v, hv, rfl⟩ := he
    obtain ⟨r, h1, h2⟩ := aExtract_sound (P := P) hv (evT_sound hr hc)
    exact ⟨r, w, .inl (one h1), leaves_val hr.heap h2⟩
  · -- typeAssert
    rename_i x xt at_ ok
    simp only [Option.bind_eq_bind, Option.bind_eq_some_iff, Option.map_eq_some_iff] at he
    obtain ⟨c, hc, v, hv, rfl⟩ := he
    have h0 := evT_sound hr hc
    unfold aAssert at hv
    split at hv
    · rename_i t c'
      split at hv
      · rename_i hcond
        obtain ⟨hi, rfl⟩ := hcond
        cases hv
        generalize hux : a.eval x = u at h0
        cases h0 with
        | ifc h1 =>
          rename_i u
          unfold isIface at hi
          split at hi
          · cases hi
          · rename_i dsc hn ht
            cases ok with
            | true =>
              refine ⟨.tuple #[u, .bool true], w, .inl (one ?_), leaves_val hr.heap (.tup rfl fun i c u' hi hu => ?_)⟩
              · simp only [Instr.typeAssert, Sem.run_bind, run_und hti ht, Result.andThen_ok]
                cases dsc <;> first | exact absurd rfl (hn _) | simp [hux]
              · match i with
                | 0 => simp at hi hu; subst hi hu; exact h1
                | 1 => simp at hi hu; subst hi hu; exact .lit _
                | i + 2 => simp at hi
            | false =>
              refine ⟨u, w, .inl (one ?_), leaves_val hr.heap h1⟩
              simp only [Instr.typeAssert, Sem.run_bind, run_und hti ht, Result.andThen_ok]
              cases dsc <;> first | exact absurd rfl (hn _) | simp [hux]
          · cases hi
      · cases hv
    · cases hv
  · -- makeMap
    rename_i t r
    split at he
    · cases he
      obtain ⟨r, w', h1, h2⟩ := makeMap_sound (P := P) (d := o.dst) hr.heap hk t
      exact ⟨r, w', .inl (one h1), h2⟩
    · rename_i x
      split at he
      · rename_i kk n p hx ht
        cases he
        have h0 := evT_sound hr hx
        have hux : a.eval x = .int kk n := by
          generalize a.eval x = u at h0
          cases h0
          rfl
        obtain ⟨r, w', h1, h2⟩ := makeMapR_sound (d := o.dst) hti hr.heap hk ht kk n
        exact ⟨r, w', .inl (one (by simpa [hux] using h1)), h2⟩
      · cases he
  · -- lookup
    simp only [Option.bind_eq_bind, Option.bind_eq_some_iff] at he
    obtain ⟨x, hx, y, hy, he⟩ := he
    obtain ⟨r, w', h1, h2⟩ := aLookup_sound (k := k) (d := o.dst) hti hr.heap he (evT_sound hr hx) (evT_sound hr hy)
    exact ⟨r, w', .inl (one h1), h2⟩
  · -- mapUpdate
    simp only [Option.bind_eq_bind, Option.bind_eq_some_iff] at he
    obtain ⟨x, hx, y, hy, z, hz, he⟩ := he
    obtain ⟨w', h1, h2⟩ := aMapSet_sound (k := k) (d := o.dst) hti hr.heap he (evT_sound hr hx) (evT_sound hr hy) (evT_sound hr hz)
    refine ⟨undef, w', .inr ⟨?_, rfl⟩, h2⟩
    simp only [Sem.run_bind, h1, Result.andThen_ok]
    rfl
  · -- insert
    simp only [Option.bind_eq_bind, Option.bind_eq_some_iff] at he
    obtain ⟨x, hx, y, hy, z, hz, he⟩ := he
    obtain ⟨w', h1, h2⟩ := aMapSet_sound (k := k) (d := o.dst) hti hr.heap he (evT_sound hr hx) (evT_sound hr hy) (evT_sound hr hz)
    refine ⟨undef, w', .inr ⟨?_, rfl⟩, h2⟩
    simp only [Sem.run_bind, h1, Result.andThen_ok]
    rfl
  · -- mapEntry
    simp only [Option.bind_eq_bind, Option.bind_eq_some_iff] at he
    obtain ⟨x, hx, y, hy, he⟩ := he
    obtain ⟨r, w', h1, h2⟩ := aMapEntry_sound (k := k) (d := o.dst) hti hr.heap he (evT_sound hr hx) (evT_sound hr hy)
    exact ⟨r, w', .inl (one h1), h2⟩
  · -- entryStore
    rename_i t _ _ _
    simp only [Option.bind_eq_bind, Option.bind_eq_some_iff] at he
    obtain ⟨x, hx, y, hy, z, hz, he⟩ := he
    obtain ⟨w', h1, h2⟩ := aEntrySet_sound (P := P) (k := k) (d := o.dst) (t := t) hr.heap he (evT_sound hr hx) (evT_sound hr hy) (evT_sound hr hz)
    refine ⟨undef, w', .inr ⟨?_, rfl⟩, h2⟩
    simp only [Sem.run_bind, h1, Result.andThen_ok]
    rfl
  · -- a builtin
    rename_i b xs ts
    simp only [Option.bind_eq_bind, Option.bind_eq_some_iff] at he
    obtain ⟨vs, hvs, he⟩ := he
    obtain ⟨h1, h2⟩ := evs_sound hr hvs
    obtain ⟨r, w', h3, h4⟩ := aBuiltin_sound (d := o.dst) (ty := o.type) (cs := xs.map fun | .const _ => true | _ => false) hti hr hk he h1 h2
    refine ⟨r, w', .inl ?_, h4⟩
    simp only [resolve, invoke, Sem.run_bind, Sem.run_pure, Result.andThen_ok]
    exact h3
end
end Go.Proofs.Ytmmabdpmeijgmaa.AM
