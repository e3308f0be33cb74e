/- append, copy, clear, len, min, max, conversions. -/
import Derived.Test.YtmmabdpmeijgmaaA8
import Derived.Laws.AppendOwn
namespace Go.Proofs.Ytmmabdpmeijgmaa.AM
open Go

/-- The cells of a slice (or a string) that are read: how many elements, which cells, out of which block. -/
def srcCells (m : Loc → AObj) (n : Nat) (x : AV) : Option (Nat × List AV × List Loc) :=
  match x with
  | .lit (.slice none 0 0) => some (0, [], [])
  | .z0 => some (0, [], [])
  | .slc id off len esz st =>
    match m (.blk id) with
    | .cells cs => if cs.length = st ∧ esz = n ∧ off + len * n ≤ st then some (len, (cs.drop off).take (len * n), [.blk id]) else none
    | _ => none
  | .rslc esz es => if esz = n then some (es.length, es.flatten, []) else none
  | .lit (.string s) => if n = 1 then some (s.size, s.data.toList.map fun b => .lit (.int .u8 b.toNat), []) else none
  | _ => none

def notInt (ti : TI) (t : TypeId) : Bool := (elemOf ti t).isSome || isStr ti t

def aAppend (ti : TI) (m : Loc → AObj) (k : Nat) (t t2 : TypeId) (x y : AV) : Option Eff := do
  let e ← elemOf ti t
  let n ← ti.sz e
  let b ← ti.bt e
  let z ← ti.zero e
  let (cnt, news, rd) ← srcCells m n y
  if 0 < n ∧ 0 < b ∧ z.cells.size = n ∧ notInt ti t2 = true then
    match x with
    | .lit (.slice none 0 0) => if cnt = 0 then some (.val x rd) else if cnt * b ≤ 140737488355328 then some (.nw (.slc k 0 cnt n (cnt * n)) rd (.cells news)) else none
    | .z0 => if cnt = 0 then some (.val x rd) else if cnt * b ≤ 140737488355328 then some (.nw (.slc k 0 cnt n (cnt * n)) rd (.cells news)) else none
    | .slc id off len esz st =>
      match m (.blk id) with
      | .cells cs =>
        if cs.length = st ∧ esz = n ∧ off = 0 ∧ len * n = st then
          if cnt = 0 then some (.val x (.blk id :: rd))
          else if (len + cnt) * b ≤ 140737488355328 then some (.wr (.slc id 0 (len + cnt) n (st + cnt * n)) (.blk id :: rd) (.blk id) (.cells (cs ++ news))) else none
        else none
      | _ => none
    | _ => none
  else none

def aLen (m : Loc → AObj) (x : AV) : Option (Nat × List Loc) :=
  match x with
  | .lit (.string s) => some (s.size, [])
  | .lit (.slice none 0 0) => some (0, [])
  | .z0 => some (0, [])
  | .slc id _ len _ st => if (m (.blk id)).stamp = some st then some (len, [.blk id]) else none
  | .rslc _ es => some (es.length, [])
  | _ => none

def lenTy (ti : TI) (t : TypeId) (x : AV) : Bool :=
  match x with
  | .lit (.string _) => isStr ti t
  | _ => (elemOf ti t).isSome

def minmax (mx : Bool) : List AV → Option AV
  | .lit (.int k a) :: rest => (rest.foldl (fun acc y => match acc, y with
      | some x, .lit (.int _ y) => some (if mx then (if y > x then y else x) else (if y < x then y else x))
      | _, _ => none) (some a)).map fun n => .lit (.int k n)
  | _ => none

section
variable {σ σ' : Sim} {h h' : Hp} {w w' : World} {P : Program} {ti : TI} {tmps : List AV} {a : Act}

theorem arrRel_ext (x : Ext σ h w σ' h' w') (hr : RH σ h w) {cs : List AV} {arr : Array Value} (hrel : ArrRel σ h w cs arr) : ArrRel σ' h' w' cs arr :=
  fun i c hi => let ⟨u, h1, h2, h3⟩ := hrel i c hi; ⟨u, h1, h2, h3.ext x hr⟩

theorem flatten_length {es : List (List AV)} {n : Nat} (hl : ∀ e ∈ es, e.length = n) : es.flatten.length = es.length * n := by
  induction es with
  | nil => simp
  | cons e es ih => rw [List.flatten_cons, List.length_append, hl e (by simp), ih (fun e he => hl e (by simp [he])), List.length_cons, Nat.succ_mul]; omega

theorem flatten_get {es : List (List AV)} {n : Nat} (hn : 0 < n) (hl : ∀ e ∈ es, e.length = n) : ∀ (i : Nat) (c : AV), es.flatten[i]? = some c → ∃ e, es[i / n]? = some e ∧ e[i % n]? = some c := by
  induction es with
  | nil => intro i c hi; simp at hi
  | cons e es ih =>
    intro i c hi
    have he : e.length = n := hl e (by simp)
    rw [List.flatten_cons, List.getElem?_append] at hi
    split at hi
    · rename_i hlt
      rw [he] at hlt
      exact ⟨e, by rw [Nat.div_eq_of_lt hlt]; rfl, by rw [Nat.mod_eq_of_lt hlt]; exact hi⟩
    · rename_i hge
      rw [he] at hge hi
      obtain ⟨e', h1, h2⟩ := ih (fun e he => hl e (by simp [he])) (i - n) c hi
      have hq : i / n = (i - n) / n + 1 := by
        rw [← Nat.add_div_right _ hn]
        congr 1
        omega
      refine ⟨e', by rw [hq]; exact h1, ?_⟩
      rw [Nat.mod_eq_sub_mod (by omega)]
      exact h2

/-- What is read of a slice. 'w1' is any world with the same memory. -/
theorem src_sound (hr : RH σ h w) {n cnt : Nat} {y : AV} {cs : List AV} {rd : List Loc} {u : Value} (hn : 0 < n) (hs : srcCells h.m n y = some (cnt, cs, rd)) (hu : V σ h w y u) :
    cs.length = cnt * n ∧ (∀ c ∈ cs, c.one = true) ∧ (∀ w1 : World, (Builtin.lenOf u).run P w1 = .ok cnt w1) ∧ ∃ arr : Array Value, arr.size = cs.length ∧ ArrRel σ h w cs arr ∧ ∀ w1 : World, w1.heap = w.heap → (Builtin.firstCells n cnt u).run P w1 = .ok arr w1 := by
  unfold srcCells at hs
  split at hs
  · cases hs
    cases hu
    exact ⟨by simp, by simp, fun _ => rfl, #[], rfl, fun i c hi => by simp at hi, fun _ _ => rfl⟩
  · cases hs
    cases hu
    rename_i ar
    refine ⟨by simp, by simp, fun _ => rfl, #[], rfl, fun i c hi => by simp at hi, fun w1 _ => ?_⟩
    cases ar with
    | none => rfl
    | some ar => simp only [Builtin.firstCells, Nat.zero_mul]; rfl
  · rename_i id off len esz st
    cases hm : h.m (.blk id) with
    | dead => rw [hm] at hs; cases hs
    | map _ _ => rw [hm] at hs; cases hs
    | loop _ _ _ _ _ _ _ => rw [hm] at hs; cases hs
    | cells bs =>
      rw [hm] at hs
      simp only [] at hs
      split at hs
      · rename_i hc
        obtain ⟨c1, rfl, c3⟩ := hc
        cases hs
        cases hu with
        | slcS k1 k2 k3 =>
          have := k3 bs.length (by rw [hm]; rfl)
          omega
        | slc k1 k2 k3 k4 k5 k6 =>
          rename_i b cap arr ee f
          have hlen : ((bs.drop off).take (cnt * esz)).length = cnt * esz := by simp; omega
          obtain ⟨_, _, _, _, _, g1, g2, _, _, hone, _⟩ := hr.cells hm
          let us : Nat → Value := fun i => (w.cell? ⟨b, off + i, none⟩).getD undef
          have hall : ∀ i c, ((bs.drop off).take (cnt * esz))[i]? = some c → w.cell? ⟨b, off + i, none⟩ = some (us i) ∧ (us i).oneCell' = true ∧ V σ h w c (us i) := by
            intro i c hi
            have hin : i < cnt * esz := by
              have := (List.getElem?_eq_some_iff.1 hi).1
              omega
            rw [List.getElem?_take_of_lt hin, List.getElem?_drop] at hi
            obtain ⟨u', h1, h2, h3⟩ := hr.load hm k3 hi
            have hus : us i = u' := by simp only [us, h1]; rfl
            rw [hus]
            exact ⟨h1, h2, h3⟩
          refine ⟨hlen, fun c hc => hone c (List.mem_of_mem_drop (List.mem_of_mem_take hc)), fun _ => rfl, ((List.range (cnt * esz)).map us).toArray, by simp [hlen], fun i c hi => ?_, fun w1 hw1 => ?_⟩
          · have hin : i < cnt * esz := by
              have := (List.getElem?_eq_some_iff.1 hi).1
              omega
            obtain ⟨h1, h2, h3⟩ := hall i c hi
            exact ⟨us i, by simp [hin], h2, h3⟩
          · simp only [Builtin.firstCells]
            refine run_loadCells (P := P) w1 ⟨b, off, none⟩ (cnt * esz) us (fun j hj => ?_)
            have hjl : j < ((bs.drop off).take (cnt * esz)).length := by omega
            obtain ⟨h1, _, _⟩ := hall j _ (List.getElem?_eq_getElem hjl)
            rw [add_of, cell?_congr (w := w) (by rw [hw1])]
            exact h1
      · cases hs
  · rename_i esz es
    split at hs
    · rename_i hc
      subst hc
      cases hs
      cases hu with
      | rslc0 =>
        rename_i cap ar
        refine ⟨by simp, by simp, fun _ => rfl, #[], rfl, fun i c hi => by simp at hi, fun w1 _ => ?_⟩
        cases ar with
        | none => rfl
        | some ar => simp only [Builtin.firstCells, List.length_nil, Nat.zero_mul]; rfl
      | rslc vs hsp hF h1 hlc hc hv hz =>
        rename_i cap ar
        have hl : ∀ e ∈ es, e.length = esz := fun e he => (h1 e he).1
        have hfl := flatten_length hl
        have key : ∀ i c, es.flatten[i]? = some c → w.cell? (ar.add i) = some (vs (i / esz) (i % esz)) ∧ c.one = true ∧ V σ h w c (vs (i / esz) (i % esz)) := by
          intro i c hi
          obtain ⟨e, g1, g2⟩ := flatten_get hn hl i c hi
          have g3 := hc _ e g1 _ c g2
          have : i / esz * esz + i % esz = i := Nat.div_add_mod' i esz
          rw [this] at g3
          exact ⟨g3, (h1 e (List.mem_of_getElem? g1)).2 c (List.mem_of_getElem? g2), hv _ e g1 _ c g2⟩
        refine ⟨hfl, fun c hc' => ?_, fun _ => rfl, ((List.range (es.length * esz)).map fun i => vs (i / esz) (i % esz)).toArray, by simp [hfl], fun i c hi => ?_, fun w1 hw1 => ?_⟩
        · obtain ⟨i, hi⟩ := List.mem_iff_getElem?.1 hc'
          exact (key i c hi).2.1
        · have hin : i < es.length * esz := by
            have := (List.getElem?_eq_some_iff.1 hi).1
            omega
          obtain ⟨g1, g2, g3⟩ := key i c hi
          exact ⟨_, by simp [hin], g3.one g2, g3⟩
        · simp only [Builtin.firstCells]
          refine run_loadCells (P := P) w1 ar (es.length * esz) (fun i => vs (i / esz) (i % esz)) (fun j hj => ?_)
          obtain ⟨g1, _, _⟩ := key j _ (List.getElem?_eq_getElem (by omega))
          rw [cell?_congr (w := w) (by rw [hw1])]
          exact g1
    · cases hs
  · rename_i s
    split at hs
    · rename_i hc
      subst hc
      cases hs
      cases hu
      refine ⟨by simp, by simp [AV.one, Value.oneCell'], fun _ => rfl, (s.data.map fun b => .int .u8 b.toNat), by simp, fun i c hi => ?_, fun w1 _ => ?_⟩
      · rw [List.getElem?_map, Array.getElem?_toList] at hi
        cases hb : s.data[i]? with
        | none => rw [hb] at hi; cases hi
        | some b =>
          rw [hb] at hi
          cases hi
          exact ⟨_, by rw [Array.getElem?_map, hb]; rfl, rfl, .lit _⟩
      · simp [Builtin.firstCells]
    · cases hs
  · cases hs

theorem notInt_und {t : TypeId} (hn : notInt ti t = true) : ∃ d, ti.und t = some d ∧ ((∃ e, d = .slice e) ∨ d = .string) := by
  unfold notInt at hn
  rcases Bool.or_eq_true_iff.1 hn with h1 | h1
  · obtain ⟨e, he⟩ := Option.isSome_iff_exists.1 h1
    exact ⟨_, elemOf_und he, .inl ⟨e, rfl⟩⟩
  · exact ⟨_, isStr_und h1, .inr rfl⟩

theorem run_append_in {t t2 ty el : TypeId} {d2 : TypeDesc} {i : TypeInfo} (ht : P.underlying t = some (.slice el)) (hd2 : P.underlying t2 = some d2) (hd2n : (∃ e, d2 = .slice e) ∨ d2 = .string) (hi : P.info? el = some i)
    {base : Option Addr} {len cap cnt : Nat} {v : Value} {arr : Array Value} (hl : ∀ w1 : World, (Builtin.lenOf v).run P w1 = .ok cnt w1) (hf : (Builtin.firstCells i.size cnt v).run P w = .ok arr w) (hroom : len + cnt ≤ cap) :
    (Builtin.append_ #[t, t2] ty #[.slice base len cap, v]).run P w = ((match base with | some a => storeCells (a.add (len * i.size)) arr.toList | none => pure () : Sem Unit).run P w).andThen fun _ w' => .ok (.slice base (len + cnt) cap) w' := by
  rcases hd2n with ⟨e2, rfl⟩ | rfl <;> cases base <;> simp [Builtin.append_, run_underlying ht, run_underlying hd2, sizeOf, typeInfo, hi, hl, hf, hroom]

theorem run_append_out {t t2 ty el : TypeId} {d2 : TypeDesc} {i : TypeInfo} {z : Value} (ht : P.underlying t = some (.slice el)) (hd2 : P.underlying t2 = some d2) (hd2n : (∃ e, d2 = .slice e) ∨ d2 = .string) (hi : P.info? el = some i) (hz : i.zero = some z)
    {base : Option Addr} {len cap cnt : Nat} {v : Value} {arr old : Array Value} (hl : ∀ w1 : World, (Builtin.lenOf v).run P w1 = .ok cnt w1) (hf : (Builtin.firstCells i.size cnt v).run P w.drew = .ok arr w.drew) (ho : (Builtin.firstCells i.size len (.slice base len cap)).run P w.drew = .ok old w.drew)
    (hroom : cap < len + cnt) (hb0 : i.bytes ≠ 0) (hfit : Builtin.nextslicecap (len + cnt) cap * i.bytes ≤ 281474976710656) :
    (Builtin.append_ #[t, t2] ty #[.slice base len cap, v]).run P w = .ok (.slice (some ⟨w.heap.size, 0, none⟩) (len + cnt) (grownCap w (len + cnt) cap el))
      (w.drew.alloc (.cells (old ++ arr ++ Builtin.zeroCells z.cells (grownCap w (len + cnt) cap el - (len + cnt))) el)) := by
  have hn : ¬ (len + cnt ≤ cap) := by omega
  have h48' : ¬ (281474976710656 < Builtin.nextslicecap (len + cnt) cap * i.bytes) := by omega
  rcases hd2n with ⟨e2, rfl⟩ | rfl <;> simp [Builtin.append_, run_underlying ht, run_underlying hd2, sizeOf, typeInfo, zeroValue, hi, hz, hl, hf, ho, hn, hb0, h48', Question.forced, newRow, grownCap]

theorem arrRel_append {cs ds : List AV} {xs ys : Array Value} (h1 : ArrRel σ h w cs xs) (hl : xs.size = cs.length) (h2 : ArrRel σ h w ds ys) : ArrRel σ h w (cs ++ ds) (xs ++ ys) := by
  intro i c hi
  rw [List.getElem?_append] at hi
  split at hi
  · rename_i hlt
    obtain ⟨u, k1, k2, k3⟩ := h1 i c hi
    exact ⟨u, by rw [Array.getElem?_append_left (by omega)]; exact k1, k2, k3⟩
  · rename_i hge
    obtain ⟨u, k1, k2, k3⟩ := h2 _ c hi
    exact ⟨u, by rw [Array.getElem?_append_right (by omega), hl]; exact k1, k2, k3⟩

theorem arrRel_more {cs : List AV} {xs ys : Array Value} (h1 : ArrRel σ h w cs xs) : ArrRel σ h w cs (xs ++ ys) := by
  intro i c hi
  obtain ⟨u, k1, k2, k3⟩ := h1 i c hi
  have := (Array.getElem?_eq_some_iff.1 k1).1
  exact ⟨u, by rw [Array.getElem?_append_left this]; exact k1, k2, k3⟩

theorem Eff.Leaves.before {e : Eff} {k : Nat} {d : Option Nat} {r : Value} {w1 w2 : World} (x : Ext σ h w σ h w1) (hl : e.Leaves σ h w1 k d r w2) : e.Leaves σ h w k d r w2 := by
  obtain ⟨σ', h1, h2, h3⟩ := hl
  exact ⟨σ', x.trans h1, h2, h3⟩

theorem aAppend_sound (hti : TIok P ti) (hr : RH σ h w) {k : Nat} (hk : ¬ h.al k) {d : Option Nat} {t t2 ty : TypeId} {x y : AV} {e : Eff} {u v : Value} (he : aAppend ti h.m k t t2 x y = some e) (hu : V σ h w x u) (hv : V σ h w y v) :
    ∃ r w', (Builtin.append_ #[t, t2] ty #[u, v]).run P w = .ok r w' ∧ e.Leaves σ h w k d r w' := by
  unfold aAppend at he
  simp only [Option.bind_eq_bind, Option.bind_eq_some_iff, Prod.exists] at he
  obtain ⟨el, hel, n, hn, b, hb, z, hz, cnt, news, rd, hsrc, he⟩ := he
  have ht := hti.und _ _ (elemOf_und hel)
  split at he
  case isFalse => cases he
  rename_i hc
  obtain ⟨hn0, hb0, hzs, hni⟩ := hc
  obtain ⟨d2, hd2', hd2n⟩ := notInt_und hni
  have hd2 := hti.und _ _ hd2'
  obtain ⟨i, hi, hib⟩ := hti.bt _ _ hb
  have his : i.size = n := by
    obtain ⟨i', h1, h2⟩ := hti.sz _ _ hn
    rw [hi] at h1
    cases h1
    exact h2
  have hiz : i.zero = some z := by
    obtain ⟨i', h1, h2⟩ := hti.zero _ _ hz
    rw [hi] at h1
    cases h1
    exact h2
  obtain ⟨s1, s2, s3, arr, s4, s5, s6⟩ := src_sound (P := P) hr hn0 hsrc hv
  have xd : Ext σ h w σ h w.drew := Ext.heap rfl rfl rfl rfl
  have hrd : RH σ h w.drew := hr.heap xd rfl
  have nil_way : ∀ (base : Option Addr), (cnt = 0 → V σ h w x (.slice base 0 0)) → u = .slice base 0 0 →
      (if cnt = 0 then some (Eff.val x rd) else if cnt * b ≤ 140737488355328 then some (.nw (.slc k 0 cnt n (cnt * n)) rd (.cells news)) else none) = some e →
      ∃ r w', (Builtin.append_ #[t, t2] ty #[u, v]).run P w = .ok r w' ∧ e.Leaves σ h w k d r w' := by
    intro base hx hu' he
    subst hu'
    split at he
    · rename_i h0
      cases he
      subst h0
      have harr : arr = #[] := Array.eq_empty_of_size_eq_zero (by rw [s4, s1]; simp)
      subst harr
      refine ⟨.slice base 0 0, w, ?_, σ, Ext.refl _ _ _, hr, ?_, fun _ => rfl⟩
      · rw [run_append_in ht hd2 hd2n hi s3 (by rw [his]; exact s6 w rfl) (by omega)]
        cases base <;> rfl
      · have := hx rfl
        cases x <;> first | exact this | cases this
    · rename_i h0
      split at he
      · rename_i hsz
        cases he
        have hold : (Builtin.firstCells i.size 0 (.slice base 0 0)).run P w.drew = .ok #[] w.drew := by
          cases base with
          | none => rfl
          | some a => simp only [Builtin.firstCells, Nat.zero_mul]; rfl
        have hrun := run_append_out (P := P) (w := w) (ty := ty) ht hd2 hd2n hi hiz s3 (by rw [his]; exact s6 w.drew rfl) hold (by omega) (by omega) (growslice_fits (by omega) (by rw [hib, Nat.zero_add]; exact hsz))
        refine ⟨_, _, hrun, Eff.Leaves.before xd (leaves_nw hrd hk (by simp; omega) s2 ⟨by omega, fun i _ => by omega⟩ ?_ (fun σ' h' w' m1 m2 m3 m4 => ?_))⟩
        · rw [Array.empty_append]
          exact arrRel_more (arrRel_ext xd hr s5)
        · have hge := grownCap_ge w (0 + cnt) 0 el
          have key : V σ' h' w' (.slc k 0 cnt n (cnt * n)) (.slice (some ⟨w.heap.size, 0, none⟩) cnt (grownCap w (0 + cnt) 0 el)) := by
           refine .slc (by rw [m1, s1]) m2 m3 m4 (by simpa using hge) ?_
           simp only [Array.size_append, size_zeroCells, hzs, s4, s1, Array.size_empty]
           have e3 : (grownCap w (0 + cnt) 0 el - (0 + cnt)) * n = grownCap w (0 + cnt) 0 el * n - (0 + cnt) * n := Nat.sub_mul _ _ _
           have e4 : (0 + cnt) * n ≤ grownCap w (0 + cnt) 0 el * n := Nat.mul_le_mul_right _ hge
           simp only [Nat.zero_add] at e3 e4 ⊢
           omega
          rw [Nat.zero_add] at key ⊢
          exact key
      · cases he
  split at he
  · cases hu
    exact nil_way none (fun _ => .lit _) rfl he
  · cases hu
    rename_i ar
    exact nil_way ar (fun _ => .z0) rfl he
  · rename_i id off len esz st
    cases hm : h.m (.blk id) with
    | dead => rw [hm] at he; cases he
    | map _ _ => rw [hm] at he; cases he
    | loop _ _ _ _ _ _ _ => rw [hm] at he; cases he
    | cells cs =>
      rw [hm] at he
      simp only [] at he
      split at he
      · rename_i hc
        obtain ⟨rfl, rfl, rfl, hst⟩ := hc
        cases hu with
        | slcS k1 k2 k3 =>
          have := k3 cs.length (by rw [hm]; rfl)
          omega
        | slc k1 k2 k3 k4 k5 k6 =>
          rename_i bb cap barr ee f
          split at he
          · rename_i h0
            cases he
            subst h0
            have harr : arr = #[] := Array.eq_empty_of_size_eq_zero (by rw [s4, s1]; simp)
            subst harr
            refine ⟨.slice (some ⟨bb, 0, none⟩) len cap, w, ?_, σ, Ext.refl _ _ _, hr, .slc k1 k2 k3 k4 k5 k6, fun _ => rfl⟩
            rw [run_append_in ht hd2 hd2n hi s3 (by rw [his]; exact s6 w rfl) (by omega)]
            rfl
          · rename_i h0
            split at he
            · rename_i hsz
              cases he
              have hpos : 0 < cnt * esz := Nat.mul_pos (by omega) hn0
              by_cases hroom : len + cnt ≤ cap
              · have hfit : (len + cnt) * esz ≤ cap * esz := Nat.mul_le_mul_right _ hroom
                rw [Nat.add_mul] at hfit
                obtain ⟨w', p1, p2, p3⟩ := RH.pushes (P := P) k3 arr.toList news cs h w cs.length 0 barr ee f hr hm (by simp) k4 (by omega) (by simpa using s4)
                  (fun j c u hj hu => by
                    obtain ⟨u', q1, _, q3⟩ := s5 j c hj
                    rw [Array.getElem?_toList] at hu
                    rw [q1] at hu
                    cases hu
                    exact q3) s2
                refine ⟨.slice (some ⟨bb, 0, none⟩) (len + cnt) cap, w', ?_, σ, p2, p3, ?_, fun _ => rfl⟩
                · rw [run_append_in ht hd2 hd2n hi s3 (by rw [his]; exact s6 w rfl) hroom]
                  simp only []
                  rw [his, add_of, hst, Nat.zero_add]
                  simp only [p1, Result.andThen_ok]
                · obtain ⟨barr', f', q1, q2⟩ := p2.shape bb barr ee f k4
                  exact .slc (by simp [Eff.hp, AObj.stamp, s1]) k2 k3 q1 (by omega) (by omega)
              · have hold := (src_sound (P := P) hr (n := esz) (cnt := len) (y := .slc id 0 len esz cs.length) (cs := (cs.drop 0).take (len * esz)) (rd := [.blk id]) hn0 (by simp [srcCells, hm]; omega) (.slc k1 k2 k3 k4 k5 k6))
                obtain ⟨o1, o2, _, oarr, o4, o5, o6⟩ := hold
                have htk : (cs.drop 0).take (len * esz) = cs := by rw [List.drop_zero, List.take_of_length_le (by omega)]
                rw [htk] at o1 o2 o4 o5
                have hrun := run_append_out (P := P) (w := w) (ty := ty) ht hd2 hd2n hi hiz s3 (by rw [his]; exact s6 w.drew rfl) (by rw [his]; exact o6 w.drew rfl) (by omega) (by omega) (growslice_fits (by omega) (by rw [hib]; exact hsz))
                obtain ⟨x1, r1⟩ := RH.renew hrd (l := .blk id) (cs := cs ++ news) (arr := oarr ++ arr ++ Builtin.zeroCells z.cells (grownCap w (len + cnt) cap el - (len + cnt))) (e := el) (lo := 0) (hi := 0)
                  (by simp; omega) (fun c hc => (List.mem_append.1 hc).elim (o2 c) (s2 c)) ⟨by omega, fun i _ => by omega⟩ (arrRel_more (arrRel_append (arrRel_ext xd hr o5) o4 (arrRel_ext xd hr s5)))
                  (fun id' hid' => ⟨by cases hid'; exact k2, cs.length, by rw [hm]; rfl, by simp; omega⟩)
                refine ⟨_, _, hrun, _, xd.trans x1, r1, ?_, fun s => Sim.set_other _ _ (by simp)⟩
                have hge := grownCap_ge w (len + cnt) cap el
                refine .slc (by simp [Eff.hp, AObj.stamp, s1]) k2 (Sim.set_same _ _ _) (heap_alloc_same _ _) hge ?_
                simp only [Array.size_append, size_zeroCells, hzs, s4, s1, o4]
                have e3 : (grownCap w (len + cnt) cap el - (len + cnt)) * esz = grownCap w (len + cnt) cap el * esz - (len + cnt) * esz := Nat.sub_mul _ _ _
                have e4 : (len + cnt) * esz ≤ grownCap w (len + cnt) cap el * esz := Nat.mul_le_mul_right _ hge
                rw [e3]
                rw [Nat.add_mul] at *
                omega
            · cases he
      · cases he
  · cases he
end
end Go.Proofs.Ytmmabdpmeijgmaa.AM
