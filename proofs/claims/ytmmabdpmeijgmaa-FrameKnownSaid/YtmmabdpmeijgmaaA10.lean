/- len, copy, clear, min, max, conversions. -/
import Derived.Test.YtmmabdpmeijgmaaA9
import Derived.RangeFuncRecord
namespace Go.Proofs.Ytmmabdpmeijgmaa.AM
open Go

def bytesOf : List AV → Option (List UInt8)
  | [] => some []
  | .lit (.int .u8 n) :: r => (bytesOf r).map fun l => UInt8.ofNat n.toNat :: l
  | _ => none

def isSl : AV → Bool
  | .lit (.slice none 0 0) => true
  | .z0 => true
  | .slc _ _ _ _ _ => true
  | .rslc _ _ => true
  | _ => false

def isU8 (ti : TI) (e : TypeId) : Bool :=
  match ti.und e with
  | some (.int .u8) => true
  | _ => false

def aConvert (ti : TI) (m : Loc → AObj) (k : Nat) (s t : TypeId) (x : AV) : Option Eff :=
  match ti.und s, ti.und t with
  | some _, some (.int k') =>
    match x with
    | .lit (.int _ n) => some (.val (.lit (.int k' (k'.wrap n))) [])
    | _ => none
  | some ds, some .string =>
    match x with
    | .lit (.string b) => some (.val (.lit (.string b)) [])
    | x => match ds with
      | .slice e => if isSl x && isU8 ti e then do
          let (_, cs, rd) ← srcCells m 1 x
          let l ← bytesOf cs
          some (.val (.lit (.string ⟨l.toArray⟩)) rd)
        else none
      | _ => none
  | some .string, some (.slice e) =>
    match x with
    | .lit (.string b) => if isU8 ti e then some (.nw (.slc k 0 b.size 1 b.size) [] (.cells (b.data.toList.map fun c => .lit (.int .u8 c.toNat)))) else none
    | _ => none
  | some (.slice _), some (.slice e) =>
    match x with
    | .slc id off len esz st => if s = t ∧ isU8 ti e then
        match m (.blk id) with
        | .cells bs => if bs.length = st then some (.wr (.slc id off len esz st) [.blk id] (.blk id) (.cells bs)) else none
        | _ => none
      else none
    | _ => none
  | _, _ => none

/-- So many of the first elements. -/
def shortS (q cnt : Nat) (y : AV) : Option AV :=
  if q = cnt then some y else match y with
    | .slc id off _ esz st => some (.slc id off q esz st)
    | _ => none

def aCopy (ti : TI) (m : Loc → AObj) (t : TypeId) (x y : AV) : Option Eff := do
  let e ← elemOf ti t
  let n ← ti.sz e
  let (cnt, _, rd0) ← srcCells m n y
  if 0 < n then
    match x with
    | .slc id off len esz st =>
      match m (.blk id) with
      | .cells bs => do
        let y' ← shortS (min cnt len) cnt y
        let (_, cs, rd) ← srcCells m n y'
        if bs.length = st ∧ esz = n ∧ off + len * n ≤ st then some (.wr (.lit (.int .i64 (min cnt len : Nat))) (.blk id :: (rd0 ++ rd)) (.blk id) (.cells (setAt bs off cs))) else none
      | _ => none
    | _ => none
  else none

def aClear (ti : TI) (m : Loc → AObj) (t : TypeId) (x : AV) : Option Eff := do
  let e ← elemOf ti t
  let n ← ti.sz e
  let zs ← zerosOf ti e
  match x with
  | .rslc _ [] => some (.val undefAV [])
  | .z0 => some (.val undefAV [])
  | .lit (.slice none 0 0) => some (.val undefAV [])
  | .slc id off len esz st =>
    match m (.blk id) with
    | .cells bs => if bs.length = st ∧ esz = n ∧ zs.length = n ∧ off + len * n ≤ st then some (.wr undefAV [.blk id] (.blk id) (.cells (setAt bs off (rep len zs)))) else none
    | _ => none
  | _ => none

section
variable {σ σ' : Sim} {h h' : Hp} {w w' : World} {P : Program} {ti : TI} {tmps : List AV} {a : Act}

theorem aLen_sound (hti : TIok P ti) {t ty : TypeId} {x : AV} {n : Nat} {rd : List Loc} {u : Value} (hl : aLen h.m x = some (n, rd)) (ht : lenTy ti t x = true) (hu : V σ h w x u) :
    (Builtin.len_ #[t] ty #[u]).run P w = .ok (goInt n) w := by
  have sl : ∀ (ar : Option Addr) (n c : Nat), (elemOf ti t).isSome = true → (Builtin.len_ #[t] ty #[.slice ar n c]).run P w = .ok (goInt n) w := by
    intro ar n c h1
    obtain ⟨e, he⟩ := Option.isSome_iff_exists.1 h1
    simp [Builtin.len_, run_und hti (elemOf_und he)]
  unfold aLen at hl
  split at hl
  · cases hl
    cases hu
    simp [Builtin.len_, run_und hti (isStr_und ht)]
  · cases hl
    cases hu
    exact sl _ _ _ ht
  · cases hl
    cases hu
    exact sl _ _ _ ht
  · split at hl
    · rename_i hs
      cases hl
      cases hu with
      | slc => exact sl _ _ _ ht
      | slcS k1 k2 k3 =>
        have := k3 _ hs
        omega
    · cases hl
  · cases hl
    cases hu with
    | rslc => exact sl _ _ _ ht
    | rslc0 => exact sl _ _ _ ht
  · cases hl

theorem minmax_sound {mx : Bool} {xs : List AV} {c : AV} {us : Array Value} (hm : minmax mx xs = some c) (hl : us.size = xs.length) (hv : ∀ (i : Nat) x u, xs[i]? = some x → us[i]? = some u → V σ h w x u) (ts : Array TypeId) (ty : TypeId) :
    ∃ r, (if mx then Builtin.max_ ts ty us else Builtin.min_ ts ty us).run P w = .ok r w ∧ V σ h w c r := by
  unfold minmax at hm
  split at hm
  · rename_i k a rest
    obtain ⟨us⟩ := us
    match us, hl with
    | u :: us, hl =>
      have h0 := hv 0 _ u rfl rfl
      cases h0
      simp only [Option.map_eq_some_iff] at hm
      obtain ⟨n, hn, rfl⟩ := hm
      have key : ∀ (rest : List AV) (us : List Value) (acc n : Int), us.length = rest.length → (∀ (i : Nat) x u, rest[i]? = some x → us[i]? = some u → V σ h w x u) →
          (rest.foldl (fun acc y => match acc, y with
            | some x, .lit (.int _ y) => some (if mx then (if y > x then y else x) else (if y < x then y else x))
            | _, _ => none) (some acc)) = some n → (us.foldlM (if mx then Builtin.max2 else Builtin.min2) (.int k acc)).run P w = .ok (.int k n) w := by
        intro rest
        induction rest with
        | nil =>
          intro us acc n hl _ hf
          have : us = [] := List.eq_nil_of_length_eq_zero (by simpa using hl)
          subst this
          simp at hf
          subst hf
          rfl
        | cons y rest ih =>
          intro us acc n hl hv hf
          match us, hl with
          | u :: us, hl =>
            rw [List.foldl_cons] at hf
            have none_stays : ∀ l : List AV, (l.foldl (fun acc y => match acc, y with
                | some x, .lit (.int _ y) => some (if mx then (if y > x then y else x) else (if y < x then y else x))
                | _, _ => none) (none : Option Int)) = none := by
              intro l
              induction l with
              | nil => rfl
              | cons _ l ih => rw [List.foldl_cons]; exact ih
            cases y with
            | lit v =>
              cases v with
              | int k' b =>
                simp only [] at hf
                have h1 := hv 0 _ u rfl rfl
                cases h1
                have := ih us _ n (by simpa using hl) (fun i x u hx hu => hv (i + 1) x u (by simpa using hx) (by simpa using hu)) hf
                rw [List.foldlM_cons]
                cases mx with
                | true =>
                  simp only [if_true] at this ⊢
                  simp only [Builtin.max2, Sem.run_bind, Sem.run_pure, Result.andThen_ok]
                  exact this
                | false =>
                  simp only [Bool.false_eq_true, if_false] at this ⊢
                  simp only [Builtin.min2, Sem.run_bind, Sem.run_pure, Result.andThen_ok]
                  exact this
              | _ => simp only [] at hf; rw [none_stays] at hf; cases hf
            | _ => simp only [] at hf; rw [none_stays] at hf; cases hf
      have := key rest us a n (by simpa using hl) (fun i x u hx hu => hv (i + 1) x u (by simpa using hx) (by simpa using hu)) hn
      refine ⟨.int k n, ?_, .lit _⟩
      cases mx with
      | true => simpa [Builtin.max_] using this
      | false => simpa [Builtin.min_] using this
  · cases hm

theorem pushBytes : ∀ (us : List Value) (l : List UInt8) (cs : List AV) (s : ByteArray), bytesOf cs = some l → us.length = cs.length → (∀ (i : Nat) c u, cs[i]? = some c → us[i]? = some u → V σ h w c u) →
    (forIn (m := Sem) us s fun c s => do
        let .int .u8 n := c | (do stuck (α := Unit) "bytesToString: byte expected"; pure (ForInStep.yield s))
        pure (ForInStep.yield (s.push (UInt8.ofNat n.toNat)))).run P w = .ok ⟨s.data ++ l.toArray⟩ w
  | [], l, cs, s, hb, hl, _ => by
    have : cs = [] := List.eq_nil_of_length_eq_zero (by simpa using hl.symm)
    subst this
    simp only [bytesOf, Option.some.injEq] at hb
    subst hb
    simp
  | u :: us, l, cs, s, hb, hl, hv => by
    match cs, hl with
    | c :: cs, hl =>
      cases c with
      | lit v =>
        cases v with
        | int k n =>
          cases k with
          | u8 =>
            simp only [bytesOf, Option.map_eq_some_iff] at hb
            obtain ⟨l', hl', rfl⟩ := hb
            have h0 := hv 0 _ u rfl rfl
            cases h0
            have ih := pushBytes us l' cs (s.push (UInt8.ofNat n.toNat)) hl' (by simpa using hl) (fun i x u hx hu => hv (i + 1) x u (by simpa using hx) (by simpa using hu))
            simp only [List.forIn_cons, Sem.run_bind, Sem.run_pure, Result.andThen_ok] at ih ⊢
            rw [ih]
            congr 2
            simp [ByteArray.push]
          | _ => simp [bytesOf] at hb
        | _ => simp [bytesOf] at hb
      | _ => simp [bytesOf] at hb

theorem isSl_slice {n cnt : Nat} {x : AV} {cs : List AV} {rd : List Loc} {u : Value} (h1 : isSl x = true) (hs : srcCells h.m n x = some (cnt, cs, rd)) (hu : V σ h w x u) : ∃ ar n c, u = .slice ar n c := by
  cases x with
  | lit v =>
    cases hu
    unfold isSl at h1
    split at h1
    · rename_i heq; cases heq; exact ⟨_, _, _, rfl⟩
    · rename_i heq; cases heq
    · rename_i heq; cases heq
    · rename_i heq; cases heq
    · cases h1
  | z0 => cases hu; exact ⟨_, _, _, rfl⟩
  | rslc => cases hu <;> exact ⟨_, _, _, rfl⟩
  | slc id off len esz st =>
    cases hu with
    | slc => exact ⟨_, _, _, rfl⟩
    | slcS k1 k2 k3 =>
      simp only [srcCells] at hs
      cases hm : h.m (.blk id) with
      | cells bs =>
        rw [hm] at hs
        simp only [] at hs
        split at hs
        · rename_i hc
          have := k3 bs.length (by rw [hm]; rfl)
          omega
        · cases hs
      | dead => rw [hm] at hs; cases hs
      | map _ _ => rw [hm] at hs; cases hs
      | loop _ _ _ _ _ _ _ => rw [hm] at hs; cases hs
  | _ => simp [isSl] at h1

theorem leaves_val (hr : RH σ h w) {k : Nat} {d : Option Nat} {v : AV} {rd : List Loc} {r : Value} (hv : V σ h w v r) : (Eff.val v rd).Leaves σ h w k d r w :=
  ⟨σ, Ext.refl _ _ _, hr, (by cases v <;> first | exact hv | cases hv), fun _ => rfl⟩

theorem isU8_und {e : TypeId} (h1 : isU8 ti e = true) : ti.und e = some (.int .u8) := by
  unfold isU8 at h1; split at h1 <;> simp_all

/-- A block of bytes is marked: behind its last cell; nothing of what is told of it turns. -/
theorem RH.refreeze (hr : RH σ h w) {id : Nat} {cs : List AV} (hl : h.m (.blk id) = .cells cs) {b : Nat} (hb : σ.ρ (.blk id) = some b) :
    ∃ w', (∀ off, (markStringish ⟨b, off, none⟩).run P w = .ok () w') ∧ Ext σ h w σ h w' ∧ RH σ h w' := by
  obtain ⟨b', o, h1, h2, h3, h4⟩ := hr.obj (.blk id) (by rw [hl]; simp)
  rw [hb] at h1
  cases h1
  rw [hl] at h3
  cases o <;> simp only [ObjRel] at h3
  rename_i arr e f
  obtain ⟨lo, hi⟩ := f
  obtain ⟨k1, ⟨k0, k2⟩, k3, k4⟩ := h3
  obtain ⟨f', hf'⟩ : ∃ f' : Nat × Nat, f' = (if lo == hi then (arr.size, arr.size + 1) else (min lo arr.size, max hi (arr.size + 1))) := ⟨_, rfl⟩
  have hnot : f'.1 ≤ f'.2 ∧ ∀ i, i < arr.size → ¬ (f'.1 ≤ i ∧ i < f'.2) := by
    rw [hf']
    split
    · exact ⟨by simp, fun i hi' => by simp only []; omega⟩
    · rename_i hne
      have hne : lo ≠ hi := by simpa using hne
      simp only []
      refine ⟨by omega, fun i hi' => ?_⟩
      have h0 : ¬ lo < arr.size := fun hh => k2 lo hh ⟨Nat.le_refl _, by omega⟩
      omega
  obtain ⟨w', hw'⟩ : ∃ w', w' = w.putObj b (.cells arr e f') := ⟨_, rfl⟩
  have hlt := lt_of_heap h2
  have hfr : w.freeze ⟨b, arr.size, none⟩ 1 = w' := by
    rw [hw', hf']
    unfold World.freeze World.putObj
    rw [if_neg (by decide)]
    have : ∀ hp hp' : Array Obj, hp = hp' → ({ w with heap := hp } : World) = { w with heap := hp' } := fun _ _ h => by rw [h]
    refine this _ _ ?_
    apply Array.ext
    · simp
    · intro i g1 g2
      have hg1 : i < w.heap.size := by simpa using g1
      by_cases hi : b = i
      · subst hi
        have he := (Array.getElem?_eq_some_iff.1 h2).2
        simp [Array.getElem_modify, he]
      · simp only [Array.getElem_modify, if_neg hi]
        exact (Array.getElem_setIfInBounds_ne hg1 hi).symm
  have same : w'.heap[b]? = some (.cells arr e f') := by rw [hw']; exact World.putObj_heap_same hlt
  have old : ∀ b', b' ≠ b → w'.heap[b']? = w.heap[b']? := fun b' hb' => by rw [hw']; exact World.putObj_heap_other hb'
  have hsz : w'.heap.size = w.heap.size := by rw [hw']; simp [World.putObj]
  have x : Ext σ h w σ h w' := {
    os := by rw [hw']; rfl
    tape := by rw [hw']; rfl
    output := by rw [hw']; rfl
    size := by rw [hsz]; exact Nat.le_refl _
    keep := fun b' _ hn => old b' fun e => hn (.blk id) (by rw [hl]; simp) (by rw [e]; exact hb)
    shape := fun b' arr' e' f2 hb' => by
      by_cases hbb : b' = b
      · subst hbb
        rw [h2] at hb'
        cases hb'
        exact ⟨arr, f', same, rfl⟩
      · exact ⟨arr', f2, (old b' hbb).trans hb', rfl⟩
    al := fun _ ha => ha
    same := fun _ _ _ _ _ => rfl
    grow := fun _ L _ hL => ⟨L, hL, Nat.le_refl _⟩
    frozen := fun _ hf => hf
    fresh := fun _ hf => .inl hf
    new := fun _ _ h1 h2 => .inr ⟨h1, h2⟩ }
  refine ⟨w', fun off => ?_, x, fun l hl' => ?_, hr.inj, fun b' hb' => by rw [hsz]; exact hr.F b' hb', hr.al⟩
  · have hshape : w.shape? b = some (e, arr.size) := by simp [World.shape?, h2]
    simp only [markStringish, Sem.run_bind, run_shape, hshape, Result.andThen_ok]
    exact congrArg (Result.ok ()) hfr
  · by_cases hid : l = .blk id
    · subst hid
      rw [hl]
      exact ⟨b, _, hb, same, ⟨k1, hnot, k3, fun i c hi => let ⟨u, h5, h6, h7⟩ := k4 i c hi; ⟨u, h5, h6, h7.ext x hr⟩⟩, h4⟩
    · obtain ⟨b', o, q1, q2, q3, q4⟩ := hr.obj l hl'
      refine ⟨b', o, q1, (old b' ?_).trans q2, obj_ext x hr q3, q4⟩
      rintro rfl
      exact hid (hr.inj l (.blk id) b' hl' (by rw [hl]; simp) q1 hb)

theorem aConvert_sound (hti : TIok P ti) (hr : RH σ h w) {k : Nat} (hk : ¬ h.al k) {d : Option Nat} {s t : TypeId} {x : AV} {e : Eff} {u : Value} (he : aConvert ti h.m k s t x = some e) (hu : V σ h w x u) :
    ∃ r w', (convert s t u).run P w = .ok r w' ∧ e.Leaves σ h w k d r w' := by
  unfold aConvert at he
  split at he
  · rename_i ds k' hs ht
    split at he
    · rename_i kk n
      cases he
      cases hu
      exact ⟨.int k' (k'.wrap n), w, by simp [convert, run_und hti hs, run_und hti ht, Conv.intToInt], leaves_val hr (.lit _)⟩
    · cases he
  · rename_i ds hs ht
    split at he
    · rename_i b
      cases he
      cases hu
      refine ⟨.string b, w, ?_, leaves_val hr (.lit _)⟩
      simp only [convert, Sem.run_bind, run_und hti hs, run_und hti ht, Result.andThen_ok]
      cases ds <;> rfl
    · split at he
      · rename_i el
        split at he
        · rename_i hc
          obtain ⟨c1, c2⟩ := Bool.and_eq_true_iff.1 hc
          have hel := isU8_und c2
          simp only [Option.bind_eq_bind, Option.bind_eq_some_iff, Prod.exists] at he
          obtain ⟨cnt, cs, rd, hsrc, l, hl, he⟩ := he
          cases he
          obtain ⟨s1, s2, s3, arr, s4, s5, s6⟩ := src_sound (P := P) hr (by omega) hsrc hu
          obtain ⟨ar, n, c, rfl⟩ := isSl_slice c1 hsrc hu
          refine ⟨.string ⟨l.toArray⟩, w, ?_, leaves_val hr (.lit _)⟩
          have hn : n = cnt := by
            have := s3 w
            simp [Builtin.lenOf] at this
            exact this
          subst hn
          have h6 := s6 w rfl
          have hpush := pushBytes (P := P) (σ := σ) (h := h) (w := w) arr.toList l cs ByteArray.empty hl (by simpa using s4) (fun i c u hc hu => by
            obtain ⟨u', q1, _, q3⟩ := s5 i c hc
            rw [Array.getElem?_toList] at hu
            rw [q1] at hu
            cases hu
            exact q3)
          simp only [convert, Sem.run_bind, run_und hti hs, run_und hti ht, run_und hti hel, Result.andThen_ok]
          cases ar with
          | none =>
            have harr : arr = #[] := by
              simp [Builtin.firstCells] at h6
              exact h6
            subst harr
            have hcs : cs = [] := List.eq_nil_of_length_eq_zero (by simpa using s4.symm)
            subst hcs
            simp only [bytesOf, Option.some.injEq] at hl
            subst hl
            rfl
          | some a =>
            simp only [Builtin.firstCells, Nat.mul_one] at h6
            simp only [Conv.bytesToString, Sem.run_bind, h6, Result.andThen_ok, ← Array.forIn_toList]
            refine (congrArg (fun r => Result.andThen r _) hpush).trans ?_
            simp [ByteArray.empty, ByteArray.emptyWithCapacity]
            rfl
        · cases he
      · cases he
  · rename_i el hs ht
    split at he
    · rename_i b
      split at he
      · rename_i hc
        cases he
        cases hu
        have hel := isU8_und hc
        have xd : Ext σ h w σ h w.drew := Ext.heap rfl rfl rfl rfl
        have hrd : RH σ h w.drew := hr.heap xd rfl
        have hfr : ∀ (arr : Array Value), ((w.drew.alloc (.cells arr el)).freeze ⟨w.heap.size, arr.size, none⟩ 1) = w.drew.alloc (.cells arr el (arr.size, arr.size + 1)) := by
          intro arr
          have hheap : ((w.heap.push (.cells arr el)).modify w.heap.size fun
              | .cells c elem (lo, hi) => .cells c elem (if lo == hi then (arr.size, arr.size + 1) else (min lo arr.size, max hi (arr.size + 1)))
              | o => o) = w.heap.push (.cells arr el (arr.size, arr.size + 1)) := by
            apply Array.ext
            · simp
            · intro i h1 h2
              simp only [Array.getElem_modify, Array.getElem_push]
              by_cases hi : i = w.heap.size
              · subst hi
                simp
              · have : i < w.heap.size := by simp at h2; omega
                simp [this]
                intro hc
                omega
          simp only [World.freeze, World.alloc, World.drew]
          simp only [Nat.one_ne_zero, if_false]
          exact congrArg (fun hp => ({ w with heap := hp, drawn := w.drawn + 1 } : World)) hheap
        obtain ⟨A, hA⟩ : ∃ A : Array Value, A = b.data.map (fun (c : UInt8) => Value.int .u8 (c.toNat : Int)) ++ Array.replicate (grownCap w b.size 0 el - b.size) (Value.int .u8 0) := ⟨_, rfl⟩
        have hrun : (convert s t (.string b)).run P w = .ok (.slice (some ⟨w.heap.size, 0, none⟩) b.size (grownCap w b.size 0 el)) (w.drew.alloc (.cells A el (A.size, A.size + 1))) := by
          simp only [convert, Sem.run_bind, run_und hti hs, run_und hti ht, run_und hti hel, Result.andThen_ok, Conv.stringToBytes, run_choose, Question.forced, Bool.false_eq_true, if_false, newRow, run_newObj, Sem.run_pure, markStringish, run_shape]
          have hsh : (w.drew.alloc (.cells A el)).shape? w.heap.size = some (el, A.size) := by
            have := heap_alloc_same w.drew (.cells A el)
            simp only [World.shape?]
            rw [show w.heap.size = w.drew.heap.size from rfl, this]
          rw [← hfr A]
          subst hA
          simp only [World.alloc, World.drew, grownCap] at hsh ⊢
          rw [hsh]
          rfl
        refine ⟨_, _, hrun, Eff.Leaves.before xd (leaves_nw hrd hk (by rw [hA]; simp) (fun c hc => ?_) ⟨by omega, fun i hi => by omega⟩ (fun i c hi => ?_) (fun σ' h' w' m1 m2 m3 m4 => ?_))⟩
        · obtain ⟨_, _, rfl⟩ := List.mem_map.1 hc
          rfl
        · rw [List.getElem?_map, Array.getElem?_toList] at hi
          cases hb : b.data[i]? with
          | none => rw [hb] at hi; cases hi
          | some c' =>
            rw [hb] at hi
            cases hi
            have hlt := (Array.getElem?_eq_some_iff.1 hb).1
            refine ⟨.int .u8 c'.toNat, ?_, rfl, .lit _⟩
            rw [hA, Array.getElem?_append_left (by simpa using hlt), Array.getElem?_map, hb]
            rfl
        · have hge := grownCap_ge w b.size 0 el
          exact .slc (by rw [m1]; simp) m2 m3 m4 hge (by rw [hA]; simp; omega)
      · cases he
    · cases he
  · rename_i e0 el hs ht
    split at he
    · rename_i id off len esz st
      split at he
      · rename_i hc
        obtain ⟨rfl, hu8⟩ := hc
        unfold isU8 at hu8
        split at hu8
        · rename_i hel
          split at he
          · rename_i bs hm
            split at he
            · rename_i hst
              cases he
              cases hu with
              | slcS _ _ q3 =>
                have := q3 bs.length (by rw [hm]; rfl)
                omega
              | slc q1 q2 q3 q4 q5 q6 =>
                rename_i b cap arr ee f
                obtain ⟨w', g1, g2, g3⟩ := hr.refreeze (P := P) hm q3
                have hset : Eff.hp (.wr (.slc id off len esz st) [.blk id] (.blk id) (.cells bs)) h k d = h := Hp.set_id _ _ _ hm
                have hee : e0 = el := by rw [hs] at ht; cases ht; rfl
                subst hee
                refine ⟨.slice (some ⟨b, off, none⟩) len cap, w', ?_, σ, by rw [hset]; exact g2, by rw [hset]; exact g3, ?_, fun _ => rfl⟩
                · simp only [convert, Sem.run_bind, run_und hti hs, run_und hti hel, Result.andThen_ok, BEq.rfl]
                  rw [g1]
                  rfl
                · show VA σ (Eff.hp (.wr (.slc id off len esz st) [.blk id] (.blk id) (.cells bs)) h k d) w' (.slc id off len esz st) _
                  rw [hset]
                  exact V.ext g2 hr (.slc q1 q2 q3 q4 q5 q6)
            · cases he
          · cases he
        · cases hu8
      · cases he
    · cases he
  · cases he
end
end Go.Proofs.Ytmmabdpmeijgmaa.AM
