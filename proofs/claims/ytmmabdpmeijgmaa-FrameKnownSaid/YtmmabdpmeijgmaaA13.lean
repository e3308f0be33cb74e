/- What an operation looks at. -/
import Derived.Test.YtmmabdpmeijgmaaA12
namespace Go.Proofs.Ytmmabdpmeijgmaa.AM
open Go

def Eff.rds : Eff → List Loc
  | .val _ rd => rd
  | .wr _ rd _ _ => rd
  | .nw _ rd _ => rd
  | .bx _ => []

def Agree (m m' : Loc → AObj) (rd : List Loc) : Prop := ∀ l ∈ rd, m' l = m l

section
variable {m m' : Loc → AObj} {ti : TI} {tmps tmps' : List AV}

theorem Agree.one {l : Loc} {rd : List Loc} (h : Agree m m' (l :: rd)) : m' l = m l := h l (by simp)

theorem cellsAt_local {ad : AV} {n : Nat} {cs : List AV} {rd : List Loc} (hc : cellsAt m ad n = some (cs, rd)) (hm : Agree m m' rd) : cellsAt m' ad n = some (cs, rd) := by
  unfold cellsAt at hc ⊢
  split at hc
  · exact hc
  · split at hc
    · rename_i hx
      split at hc
      · rename_i hcond
        cases hc
        simp only [hm.one, hx]
        rw [if_pos hcond]
      · cases hc
    · cases hc
  · split at hc
    · rename_i hx
      split at hc
      · rename_i hcond
        cases hc
        simp only [hm.one, hx]
        rw [if_pos hcond]
      · cases hc
    · cases hc
  · cases hc

theorem srcCells_local {x : AV} {n c : Nat} {cs : List AV} {rd : List Loc} (hc : srcCells m n x = some (c, cs, rd)) (hm : Agree m m' rd) : srcCells m' n x = some (c, cs, rd) := by
  unfold srcCells at hc ⊢
  split at hc
  · exact hc
  · exact hc
  · split at hc
    · rename_i hx
      split at hc
      · cases hc
        simp only [hm.one, hx]
        simp_all
      · cases hc
    · cases hc
  · exact hc
  · exact hc
  · cases hc

theorem aLen_local {x : AV} {n : Nat} {rd : List Loc} (hc : aLen m x = some (n, rd)) (hm : Agree m m' rd) : aLen m' x = some (n, rd) := by
  unfold aLen at hc ⊢
  split at hc
  · exact hc
  · exact hc
  · exact hc
  · split at hc
    · cases hc
      simp only [hm.one]
      simp_all
    · cases hc
  · exact hc
  · cases hc

theorem alive_local {c : AV} (hm : Agree m m' (locs c)) : alive m' c = alive m c := by
  cases c <;> simp only [alive]
  rw [hm.one]

theorem alive'_local {c : AV} (hm : Agree m m' (locs c)) : alive' m' c = alive' m c := by
  cases c <;> simp only [alive']
  rw [hm.one]

def slcs : AV → List Loc
  | .slc id _ _ _ _ => [.blk id]
  | _ => []

theorem aFieldAddr_local {t : TypeId} {c : AV} {f : Nat} (hm : Agree m m' (locs c)) : aFieldAddr ti m' t c f = aFieldAddr ti m t c f := by
  unfold aFieldAddr; rw [alive_local hm]

theorem aIndexArr_local {t : TypeId} {c ix : AV} (hm : Agree m m' (locs c)) : aIndexArr ti m' t c ix = aIndexArr ti m t c ix := by
  unfold aIndexArr; rw [alive_local hm]

theorem aIndexSl_local {t : TypeId} {c ix : AV} (hm : Agree m m' (slcs c)) : aIndexSl ti m' t c ix = aIndexSl ti m t c ix := by
  unfold aIndexSl
  cases c <;> try rfl
  simp only [hm.one]

theorem aSliceOp_local {t : TypeId} {c : AV} {lo hi mx : Option AV} (hm : Agree m m' (slcs c)) : aSliceOp ti m' t c lo hi mx = aSliceOp ti m t c lo hi mx := by
  unfold aSliceOp
  cases c with
  | slc id off len esz st => simp only [hm.one]
  | lit v => cases v with
    | slice a b c => cases a <;> cases b <;> cases c <;> rfl
    | _ => rfl
  | _ => rfl

theorem aSliceArr_local {t : TypeId} {c : AV} {lo hi : Option AV} (hm : Agree m m' (locs c)) : aSliceArr ti m' t c lo hi = aSliceArr ti m t c lo hi := by
  unfold aSliceArr
  cases c <;> try rfl
  simp only [hm.one]

theorem aLoad_local {t : TypeId} {ad : AV} {e : Eff} (he : aLoad ti m t ad = some e) (hm : Agree m m' e.rds) : aLoad ti m' t ad = some e := by
  unfold aLoad at he ⊢
  simp only [Option.bind_eq_bind, Option.bind_eq_some_iff, Prod.exists] at he ⊢
  obtain ⟨g, hg, n, hn, cs, rd, hc, v, hv, he⟩ := he
  cases he
  exact ⟨g, hg, n, hn, cs, rd, cellsAt_local hc hm, v, hv, rfl⟩

theorem aStore_local {t : TypeId} {ad x : AV} {e : Eff} (he : aStore ti m t ad x = some e) (hm : Agree m m' e.rds) : aStore ti m' t ad x = some e := by
  unfold aStore at he ⊢
  simp only [Option.bind_eq_bind, Option.bind_eq_some_iff] at he ⊢
  obtain ⟨n, hn, he⟩ := he
  refine ⟨n, hn, ?_⟩
  split at he
  · rename_i hc
    rw [if_pos hc]
    split at he
    · split at he
      · rename_i hx
        split at he
        · rename_i hcond
          cases he
          simp only [hm.one, hx]
          rw [if_pos hcond]
        · cases he
      · cases he
    · split at he
      · rename_i hx
        split at he
        · rename_i hcond
          cases he
          simp only [hm.one, hx]
          rw [if_pos hcond]
        · cases he
      · cases he
    · cases he
  · cases he

theorem aConvert_local {k : Nat} {s t : TypeId} {x : AV} {e : Eff} (he : aConvert ti m k s t x = some e) (hm : Agree m m' e.rds) : aConvert ti m' k s t x = some e := by
  unfold aConvert at he ⊢
  split at he
  · exact he
  · split at he
    · exact he
    · split at he
      · rename_i hc
        split at he
        · rename_i h1
          simp only [Option.bind_eq_bind, Option.bind_eq_some_iff, Prod.exists] at he
          obtain ⟨c, cs, rd, h2, l, h3, he⟩ := he
          cases he
          have := srcCells_local h2 hm
          simp_all
        · cases he
      · cases he
  · exact he
  · split at he
    · split at he
      · rename_i hc
        split at he
        · rename_i hx
          split at he
          · rename_i hst
            cases he
            rw [if_pos hc]
            simp only [hm.one, hx]
            rw [if_pos hst]
          · cases he
        · cases he
      · cases he
    · cases he
  · cases he

theorem aAppend_local {k : Nat} {t t2 : TypeId} {x y : AV} {e : Eff} (he : aAppend ti m k t t2 x y = some e) (hm : Agree m m' e.rds) : aAppend ti m' k t t2 x y = some e := by
  unfold aAppend at he ⊢
  simp only [Option.bind_eq_bind, Option.bind_eq_some_iff, Prod.exists] at he ⊢
  obtain ⟨el, hel, n, hn, b, hb, z, hz, cnt, news, rd, hs, he⟩ := he
  refine ⟨el, hel, n, hn, b, hb, z, hz, cnt, news, rd, ?_, ?_⟩
  · refine srcCells_local hs fun l hl => hm l ?_
    split at he
    · split at he
      · split at he
        · cases he; exact hl
        · split at he
          · cases he; exact hl
          · cases he
      · split at he
        · cases he; exact hl
        · split at he
          · cases he; exact hl
          · cases he
      · split at he
        · split at he
          · split at he
            · cases he; exact List.mem_cons_of_mem _ hl
            · split at he
              · cases he; exact List.mem_cons_of_mem _ hl
              · cases he
          · cases he
        · cases he
      · cases he
    · cases he
  · split at he
    · rename_i hc
      rw [if_pos hc]
      split at he
      · exact he
      · exact he
      · split at he
        · rename_i hx
          split at he
          · rename_i hc2
            split at he
            · cases he
              simp only [hm.one, hx]
              simp_all
            · split at he
              · cases he
                simp only [hm.one, hx]
                simp_all
              · cases he
          · cases he
        · cases he
      · cases he
    · cases he

theorem aNilEq_local {d : Option TypeDesc} {op : BinOp} {x y : AV} (hm : Agree m m' (slcs x)) : aNilEq m' d op x y = aNilEq m d op x y := by
  unfold aNilEq
  cases x with
  | slc id off len esz st => simp only [hm.one]
  | rslc esz es => cases es <;> rfl
  | _ => rfl

theorem aBinM_local {t : TypeId} {op : BinOp} {x y : AV} {e : Eff} (he : aBinM ti m t op x y = some e) (hm : Agree m m' e.rds) : aBinM ti m' t op x y = some e := by
  by_cases hs : Agree m m' (slcs x)
  · unfold aBinM at he ⊢
    rw [aNilEq_local hs]
    exact he
  · -- nothing is read
    cases x with
    | slc id off len esz st =>
      unfold aBinM at he ⊢
      cases hn : aNilEq m (ti.und t) op (.slc id off len esz st) y with
      | some e' =>
        exfalso
        rw [hn] at he
        cases he
        apply hs
        unfold aNilEq at hn
        split at hn
        · split at hn
          · simp only [] at hn
            split at hn
            · cases hn; exact hm
            · cases hn
          · simp only [] at hn
            split at hn
            · cases hn; exact hm
            · cases hn
          · cases hn
        · cases hn
      | none =>
        rw [hn] at he
        simp only [Option.map_eq_some_iff] at he
        obtain ⟨v, hv, _⟩ := he
        unfold aBinX at hv
        cases y <;> simp [aBin] at hv
    | _ => exact absurd (fun l hl => by simp [slcs] at hl) hs

theorem aCopy_local {t : TypeId} {x y : AV} {e : Eff} (he : aCopy ti m t x y = some e) (hm : Agree m m' e.rds) : aCopy ti m' t x y = some e := by
  unfold aCopy at he ⊢
  simp only [Option.bind_eq_bind, Option.bind_eq_some_iff, Prod.exists] at he ⊢
  obtain ⟨el, hel, n, hn, cnt, cs0, rd0, hs, he⟩ := he
  split at he
  · rename_i hn0
    split at he
    · rename_i id off len esz st
      cases hb : m (.blk id) with
      | dead => rw [hb] at he; cases he
      | map _ _ => rw [hb] at he; cases he
      | loop _ _ _ _ _ _ _ => rw [hb] at he; cases he
      | cells bs =>
        rw [hb] at he
        simp only [Option.bind_eq_some_iff, Prod.exists] at he
        obtain ⟨y', hy', cnt', cs, rd, hs', he⟩ := he
        split at he
        · rename_i hc
          cases he
          refine ⟨el, hel, n, hn, cnt, cs0, rd0, srcCells_local hs fun l hl => hm l (by simp [Eff.rds, hl]), ?_⟩
          rw [if_pos hn0]
          simp only [hm.one, hb, Option.bind_eq_some_iff, Prod.exists]
          exact ⟨y', hy', cnt', cs, rd, srcCells_local hs' fun l hl => hm l (by simp [Eff.rds, hl]), by rw [if_pos hc]⟩
        · cases he
    · cases he
  · cases he

theorem aClear_local {t : TypeId} {x : AV} {e : Eff} (he : aClear ti m t x = some e) (hm : Agree m m' e.rds) : aClear ti m' t x = some e := by
  unfold aClear at he ⊢
  simp only [Option.bind_eq_bind, Option.bind_eq_some_iff] at he ⊢
  obtain ⟨el, hel, n, hn, zs, hz, he⟩ := he
  refine ⟨el, hel, n, hn, zs, hz, ?_⟩
  split at he
  · exact he
  · exact he
  · exact he
  · rename_i id off len esz st
    cases hb : m (.blk id) with
    | dead => rw [hb] at he; cases he
    | map _ _ => rw [hb] at he; cases he
    | loop _ _ _ _ _ _ _ => rw [hb] at he; cases he
    | cells bs =>
      rw [hb] at he
      simp only [] at he
      split at he
      · rename_i hc
        cases he
        simp only [hm.one, hb]
        rw [if_pos hc]
      · cases he
  · cases he

theorem aLookup_local {t : TypeId} {x y : AV} {ok : Bool} {e : Eff} (he : aLookup ti m t x y ok = some e) (hm : Agree m m' e.rds) : aLookup ti m' t x y ok = some e := by
  unfold aLookup at he ⊢
  simp only [Option.bind_eq_bind, Option.bind_eq_some_iff, Prod.exists] at he ⊢
  obtain ⟨kt, et, ht, he⟩ := he
  refine ⟨kt, et, ht, ?_⟩
  split at he
  · rename_i id
    split at he
    · rename_i es clock hb
      have h1 : m' (.blk id) = m (.blk id) := by
        split at he
        · split at he
          · simp only [Option.map_eq_some_iff] at he
            obtain ⟨_, _, rfl⟩ := he
            exact hm.one
          · simp only [Option.bind_eq_some_iff] at he
            obtain ⟨_, _, _, _, he⟩ := he
            cases he
            exact hm.one
          · cases he
        · cases he
      simp only [h1, hb]
      exact he
    · cases he
  · cases he

theorem aMapSet_local {t : TypeId} {x y z : AV} {e : Eff} (he : aMapSet ti m t x y z = some e) (hm : Agree m m' e.rds) : aMapSet ti m' t x y z = some e := by
  unfold aMapSet at he ⊢
  simp only [Option.bind_eq_bind, Option.bind_eq_some_iff, Prod.exists] at he ⊢
  obtain ⟨kt, et, ht, he⟩ := he
  refine ⟨kt, et, ht, ?_⟩
  split at he
  · rename_i id
    split at he
    · rename_i es clock hb
      have h1 : m' (.blk id) = m (.blk id) := by
        split at he
        · split at he
          · split at he
            · split at he
              · cases he; exact hm.one
              · cases he
            · cases he
          · cases he; exact hm.one
          · cases he
        · cases he
      simp only [h1, hb]
      exact he
    · cases he
  · cases he

theorem aMapEntry_local {t : TypeId} {x y : AV} {e : Eff} (he : aMapEntry ti m t x y = some e) (hm : Agree m m' e.rds) : aMapEntry ti m' t x y = some e := by
  unfold aMapEntry at he ⊢
  simp only [Option.bind_eq_bind, Option.bind_eq_some_iff, Prod.exists] at he ⊢
  obtain ⟨kt, et, ht, he⟩ := he
  refine ⟨kt, et, ht, ?_⟩
  split at he
  · rename_i id
    split at he
    · rename_i es clock hb
      have h1 : m' (.blk id) = m (.blk id) := by
        split at he
        · split at he
          · split at he
            · split at he
              · cases he; exact hm.one
              · cases he
            · cases he
          · simp only [Option.bind_eq_some_iff] at he
            obtain ⟨_, _, _, _, he⟩ := he
            cases he
            exact hm.one
          · cases he
        · cases he
      simp only [h1, hb]
      exact he
    · cases he
  · cases he

theorem aEntrySet_local {x y z : AV} {e : Eff} (he : aEntrySet m x y z = some e) (hm : Agree m m' e.rds) : aEntrySet m' x y z = some e := by
  unfold aEntrySet at he ⊢
  split at he
  · rename_i id kk n
    split at he
    · rename_i es clock hb
      have h1 : m' (.blk id) = m (.blk id) := by
        split at he
        · split at he
          · cases he; exact hm.one
          · cases he
        · cases he
      simp only [h1, hb]
      exact he
    · cases he
  · cases he

theorem aBuiltin_local {k : Nat} {b : Builtin} {ts : Array TypeId} {xs : List AV} {e : Eff} (he : aBuiltin ti m k b ts xs = some e) (hm : Agree m m' e.rds) : aBuiltin ti m' k b ts xs = some e := by
  unfold aBuiltin at he ⊢
  split at he
  · split at he
    · simp only [Option.bind_eq_bind, Option.bind_eq_some_iff, Prod.exists] at he ⊢
      obtain ⟨n, rd, hn, he⟩ := he
      split at he
      · cases he
        exact ⟨n, rd, aLen_local hn hm, by simp_all⟩
      · cases he
    · cases he
  · split at he
    · exact aAppend_local he hm
    · cases he
  · split at he
    · exact aCopy_local he hm
    · cases he
  · split at he
    · exact aClear_local he hm
    · cases he
  · exact he
  · exact he
  · cases he

/-- Two frames tell the same of some operands. -/
def SameOps (tmps tmps' : List AV) (xs : Array Operand) : Prop := ∀ x ∈ xs, evT tmps' x = evT tmps x ∧ evA tmps' x = evA tmps x

theorem evs_local {xs : Array Operand} (h : ∀ x ∈ xs, evT tmps' x = evT tmps x) : evs tmps' xs = evs tmps xs := by
  obtain ⟨l⟩ := xs
  simp only [evs]
  induction l with
  | nil => rfl
  | cons x l ih =>
    simp only [List.mapM_cons, h x (by simp)]
    rw [ih fun y hy => h y (by simp at hy ⊢; exact .inr hy)]

theorem evParts_local {xs : Array (Nat × Operand)} (h : ∀ p ∈ xs, evT tmps' p.2 = evT tmps p.2) : evParts tmps' xs = evParts tmps xs := by
  obtain ⟨l⟩ := xs
  simp only [evParts]
  induction l with
  | nil => rfl
  | cons x l ih =>
    simp only [List.mapM_cons, h x (by simp)]
    rw [ih fun y hy => h y (by simp at hy ⊢; exact .inr hy)]

theorem evOpt_local {x : Option Operand} (h : ∀ y, x = some y → evT tmps' y = evT tmps y) : evOpt tmps' x = evOpt tmps x := by
  cases x with
  | none => rfl
  | some y => simp only [evOpt, h y rfl]

theorem aNil_local {x : Operand} (h1 : evT tmps' x = evT tmps x) (h2 : evA tmps' x = evA tmps x) : aNil tmps' x = aNil tmps x := by
  unfold aNil; rw [h1, h2]

theorem aop_tmps {loc : Nat → Bool} {k : Nat} {o : Oper} (ht : SameOps tmps tmps' o.op.operands) : aop ti loc tmps' m k o = aop ti loc tmps m k o := by
  unfold aop
  unfold SameOps at ht
  cases ho : o.op <;> rw [ho] at ht <;> simp only [Op.operands, Call.operands] at ht ⊢
  case call c =>
    obtain ⟨cal, args, tys⟩ := c
    cases cal with
    | builtin b =>
      simp only [] at ht ⊢
      rw [evs_local fun x hx => (ht x (by simpa using hx)).1]
    | _ => rfl
  case build t ps => rw [evParts_local fun p hp => (ht p.2 (by simp; exact ⟨p.1, by simpa using hp⟩)).1]
  case buildSlice t n ps => rw [evParts_local fun p hp => (ht p.2 (by simp; exact ⟨p.1, by simpa using hp⟩)).1]
  case makeFunc f xs ys => rw [evs_local fun x hx => (ht x (by simp [hx])).1, evs_local fun x hx => (ht x (by simp [hx])).1]
  case slice t x lo hi mx =>
    have hx := ht x (by simp)
    have h1 : evOpt tmps' lo = evOpt tmps lo := evOpt_local fun y hy => (ht y (by simp [hy])).1
    have h2 : evOpt tmps' hi = evOpt tmps hi := evOpt_local fun y hy => (ht y (by simp [hy])).1
    have h3 : evOpt tmps' mx = evOpt tmps mx := evOpt_local fun y hy => (ht y (by simp [hy])).1
    simp only [hx.1, hx.2, h1, h2, h3]
  case makeMap t r =>
    cases r with
    | none => rfl
    | some x => simp only [(ht x (by simp)).1]
  case nilCheck x => rw [aNil_local (ht x (by simp)).1 (ht x (by simp)).2]
  all_goals first
    | rfl
    | (simp only [Array.mem_def, List.mem_cons, List.not_mem_nil, or_false, forall_eq_or_imp, forall_eq] at ht; simp [ht])

theorem aop_local {loc : Nat → Bool} {k : Nat} {o : Oper} {e : Eff} (he : aop ti loc tmps m k o = some e) (ht : SameOps tmps tmps' o.op.operands) (hm : Agree m m' e.rds) :
    aop ti loc tmps' m' k o = some e := by
  rw [aop_tmps ht]
  unfold aop at he ⊢
  split at he
  · exact he
  · exact he
  · exact he
  · exact he
  · exact he
  · exact he
  · exact he
  · -- load
    simp only [Option.bind_eq_bind, Option.bind_eq_some_iff] at he ⊢
    obtain ⟨ad, had, he⟩ := he
    exact ⟨ad, had, aLoad_local he hm⟩
  · -- store
    simp only [Option.bind_eq_bind, Option.bind_eq_some_iff] at he ⊢
    obtain ⟨ad, had, x, hx, he⟩ := he
    exact ⟨ad, had, x, hx, aStore_local he hm⟩
  · -- nilCheck
    simp only [Option.bind_eq_bind, Option.bind_eq_some_iff] at he ⊢
    obtain ⟨c, hc, he⟩ := he
    refine ⟨c, hc, ?_⟩
    split at he
    · cases he
      rw [alive'_local hm]
      simp_all
    · cases he
  · simp only [Option.bind_eq_bind, Option.bind_eq_some_iff] at he ⊢
    obtain ⟨x, hx, y, hy, he⟩ := he
    exact ⟨x, hx, y, hy, aBinM_local he hm⟩
  · exact he
  · -- convert
    simp only [Option.bind_eq_bind, Option.bind_eq_some_iff] at he ⊢
    obtain ⟨c, hc, he⟩ := he
    exact ⟨c, hc, aConvert_local he hm⟩
  · exact he
  · exact he
  · exact he
  · -- slice
    rename_i t x lo hi mx ho
    split at he
    · rename_i ha
      rw [if_pos ha]
      split at he
      · simp only [Option.bind_eq_bind, Option.bind_eq_some_iff, Option.map_eq_some_iff] at he ⊢
        obtain ⟨c, hc, l, hl, hh, hhh, v, hv, rfl⟩ := he
        exact ⟨c, hc, l, hl, hh, hhh, v, by rw [aSliceArr_local hm]; exact hv, rfl⟩
      · cases he
    · rename_i ha
      rw [if_neg ha]
      simp only [Option.bind_eq_bind, Option.bind_eq_some_iff, Option.map_eq_some_iff] at he ⊢
      obtain ⟨c, hc, l, hl, hh, hhh, mm, hmm, v, hv, rfl⟩ := he
      refine ⟨c, hc, l, hl, hh, hhh, mm, hmm, v, ?_, rfl⟩
      rw [aSliceOp_local]
      · exact hv
      · cases c <;> exact hm
  · -- fieldAddr
    simp only [Option.bind_eq_bind, Option.bind_eq_some_iff, Option.map_eq_some_iff] at he ⊢
    obtain ⟨c, hc, v, hv, rfl⟩ := he
    exact ⟨c, hc, v, by rw [aFieldAddr_local hm]; exact hv, rfl⟩
  · exact he
  · -- indexAddr
    split at he
    · rename_i ha
      rw [if_pos ha]
      simp only [Option.bind_eq_bind, Option.bind_eq_some_iff, Option.map_eq_some_iff] at he ⊢
      obtain ⟨c, hc, i, hi, v, hv, rfl⟩ := he
      exact ⟨c, hc, i, hi, v, by rw [aIndexArr_local hm]; exact hv, rfl⟩
    · rename_i ha
      rw [if_neg ha]
      simp only [Option.bind_eq_bind, Option.bind_eq_some_iff, Option.map_eq_some_iff] at he ⊢
      obtain ⟨c, hc, i, hi, v, hv, rfl⟩ := he
      refine ⟨c, hc, i, hi, v, ?_, rfl⟩
      rw [aIndexSl_local]
      · exact hv
      · cases c <;> exact hm
  · exact he
  · exact he
  · exact he
  · exact he
  · -- lookup
    simp only [Option.bind_eq_bind, Option.bind_eq_some_iff] at he ⊢
    obtain ⟨x, hx, y, hy, he⟩ := he
    exact ⟨x, hx, y, hy, aLookup_local he hm⟩
  · simp only [Option.bind_eq_bind, Option.bind_eq_some_iff] at he ⊢
    obtain ⟨x, hx, y, hy, z, hz, he⟩ := he
    exact ⟨x, hx, y, hy, z, hz, aMapSet_local he hm⟩
  · simp only [Option.bind_eq_bind, Option.bind_eq_some_iff] at he ⊢
    obtain ⟨x, hx, y, hy, z, hz, he⟩ := he
    exact ⟨x, hx, y, hy, z, hz, aMapSet_local he hm⟩
  · simp only [Option.bind_eq_bind, Option.bind_eq_some_iff] at he ⊢
    obtain ⟨x, hx, y, hy, he⟩ := he
    exact ⟨x, hx, y, hy, aMapEntry_local he hm⟩
  · simp only [Option.bind_eq_bind, Option.bind_eq_some_iff] at he ⊢
    obtain ⟨x, hx, y, hy, z, hz, he⟩ := he
    exact ⟨x, hx, y, hy, z, hz, aEntrySet_local he hm⟩
  · -- a builtin
    simp only [Option.bind_eq_bind, Option.bind_eq_some_iff] at he ⊢
    obtain ⟨vs, hvs, he⟩ := he
    exact ⟨vs, hvs, aBuiltin_local he hm⟩
  · cases he

/-- Two memories whose blocks are as long as each other's. -/
def StampAgree (m m' : Loc → AObj) (rd : List Loc) : Prop := ∀ l ∈ rd, (m' l).stamp = (m l).stamp

/-- Operations that look at no cell. -/
def shallow : Op → Bool
  | .fieldAddr _ _ _ => true
  | .nilCheck _ => true
  | .indexAddr _ _ _ => true
  | _ => false

theorem StampAgree.one {l : Loc} {rd : List Loc} (h : StampAgree m m' (l :: rd)) : (m' l).stamp = (m l).stamp := h l (by simp)

theorem alive_stamp {c : AV} (hm : StampAgree m m' (locs c)) : alive m' c = alive m c := by
  cases c <;> simp only [alive]
  rw [hm.one]

theorem alive'_stamp {c : AV} (hm : StampAgree m m' (locs c)) : alive' m' c = alive' m c := by
  cases c <;> simp only [alive']
  rw [hm.one]

theorem aop_shallow {loc : Nat → Bool} {k : Nat} {o : Oper} {e : Eff} (he : aop ti loc tmps m k o = some e) (hs : shallow o.op = true) (hm : StampAgree m m' e.rds) : aop ti loc tmps m' k o = some e := by
  unfold aop at he ⊢
  cases ho : o.op <;> rw [ho] at hs he <;> simp only [shallow] at hs <;> first | (cases hs; done) | skip
  case nilCheck x =>
    simp only [Option.bind_eq_bind, Option.bind_eq_some_iff] at he ⊢
    obtain ⟨c, hc, he⟩ := he
    refine ⟨c, hc, ?_⟩
    split at he
    · cases he
      rw [alive'_stamp hm]
      simp_all
    · cases he
  case fieldAddr t x f =>
    simp only [Option.bind_eq_bind, Option.bind_eq_some_iff, Option.map_eq_some_iff] at he ⊢
    obtain ⟨c, hc, v, hv, rfl⟩ := he
    refine ⟨c, hc, v, ?_, rfl⟩
    unfold aFieldAddr at hv ⊢
    rw [alive_stamp hm]
    exact hv
  case indexAddr t x ix =>
    simp only [] at he ⊢
    split at he
    · rename_i ha
      rw [if_pos ha]
      simp only [Option.bind_eq_bind, Option.bind_eq_some_iff, Option.map_eq_some_iff] at he ⊢
      obtain ⟨c, hc, i, hi, v, hv, rfl⟩ := he
      refine ⟨c, hc, i, hi, v, ?_, rfl⟩
      unfold aIndexArr at hv ⊢
      rw [alive_stamp hm]
      exact hv
    · rename_i ha
      rw [if_neg ha]
      simp only [Option.bind_eq_bind, Option.bind_eq_some_iff, Option.map_eq_some_iff] at he ⊢
      obtain ⟨c, hc, i, hi, v, hv, rfl⟩ := he
      refine ⟨c, hc, i, hi, v, ?_, rfl⟩
      unfold aIndexSl at hv ⊢
      cases c <;> try exact hv
      have h1 := hm.one
      simp only [h1]
      exact hv
end
end Go.Proofs.Ytmmabdpmeijgmaa.AM
