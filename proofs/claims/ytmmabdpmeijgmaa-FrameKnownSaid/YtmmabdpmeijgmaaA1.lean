/- Abstract values and heaps, and how they stand to the machine's values and worlds. -/
import Derived.CallsIn
import Derived.Laws.World
import Derived.Laws.Cells
import Derived.Laws.Sem
namespace Go.Proofs.Ytmmabdpmeijgmaa.AM
open Go

/-- A place of the abstract memory: a block of the heap, or the variable that a slot of the frame holds by itself. -/
inductive Loc where
  | blk (id : Nat)
  | box (t : Nat)
  deriving DecidableEq

/-- Abstract values. -/
inductive AV where
  | lit (v : Value)
  | ptr (id off st : Nat)
  | rptr (cs : List AV)
  | slc (id off len esz st : Nat)
  | rslc (esz : Nat) (es : List (List AV))
  | z0
  | map (id : Nat)
  | fn (f : Fn) (first captured : List AV)
  | yld (id : Nat)
  | ifc (t : TypeId) (v : AV)
  | agg (cs : List AV)
  | tup (vs : List AV)
  | lbox (cs : List AV)
  | lptr (t off : Nat)
  | dead
  deriving Inhabited

/-- May it stand in one cell? -/
def AV.one : AV → Bool
  | .lit v => v.oneCell'
  | .agg _ | .tup _ | .lbox _ | .lptr _ _ | .dead => false
  | _ => true

def AV.cells : AV → List AV
  | .agg cs => cs
  | v => [v]

inductive AObj where
  | dead
  | cells (cs : List AV)
  | map (es : List (AV × AV × Nat)) (clock : Nat)
  | loop (st : LoopState) (pend : Option Code) (fn : FuncId × Nat) (tmps : List AV) (ps : Array Tmp) (asg body : Code)
  deriving Inhabited

/-- A stamp: what shows that a handle is still good: the number of cells. -/
def AObj.stamp : AObj → Option Nat
  | .dead => none
  | .cells cs => some cs.length
  | .map _ _ => some 0
  | .loop _ _ _ _ _ _ _ => some 0

/-- The abstract memory, place by place; 'al': which blocks there have been. -/
structure Hp where
  m : Loc → AObj
  al : Nat → Prop

structure Sim where
  ρ : Loc → Option Nat
  F : Nat → Prop

/-- No handle of the abstract memory's own is in it. -/
inductive Fz : AV → Prop
  | lit (v : Value) : Fz (.lit v)
  | rptr {cs : List AV} (h : ∀ c ∈ cs, Fz c) : Fz (.rptr cs)
  | rslc {esz : Nat} {es : List (List AV)} (h : ∀ e ∈ es, ∀ c ∈ e, Fz c) : Fz (.rslc esz es)
  | z0 : Fz .z0
  | fn {f : Fn} {xs ys : List AV} (h1 : ∀ c ∈ xs, Fz c) (h2 : ∀ c ∈ ys, Fz c) : Fz (.fn f xs ys)
  | ifc {t : TypeId} {v : AV} (h : Fz v) : Fz (.ifc t v)
  | agg {cs : List AV} (h : ∀ c ∈ cs, Fz c) : Fz (.agg cs)
  | tup {cs : List AV} (h : ∀ c ∈ cs, Fz c) : Fz (.tup cs)

/-- An abstract value tells a value. -/
inductive V (σ : Sim) (h : Hp) (w : World) : AV → Value → Prop
  | lit (v : Value) : V σ h w (.lit v) v
  | ptr {id off st b : Nat} (hs : (h.m (.blk id)).stamp = some st) (ha : h.al id) (hr : σ.ρ (.blk id) = some b) : V σ h w (.ptr id off st) (.pointer (some ⟨b, off, none⟩))
  | ptrS {id off st : Nat} {u : Value} (hu : u.oneCell' = true) (ha : h.al id) (hs : ∀ L, (h.m (.blk id)).stamp = some L → st < L) : V σ h w (.ptr id off st) u
  | rptr {cs : List AV} {a : Addr} (vs : Nat → Value) (hsp : a.spot = none) (hF : σ.F a.block) (h1 : ∀ c ∈ cs, c.one = true)
      (hc : ∀ i c, cs[i]? = some c → w.cell? (a.add i) = some (vs i)) (hv : ∀ i c, cs[i]? = some c → V σ h w c (vs i)) (hz : ∀ c ∈ cs, Fz c) : V σ h w (.rptr cs) (.pointer (some a))
  | slc {id off len esz st b cap : Nat} {arr : Array Value} {e : TypeId} {f : Nat × Nat} (hs : (h.m (.blk id)).stamp = some st) (ha : h.al id) (hr : σ.ρ (.blk id) = some b)
      (hb : w.heap[b]? = some (.cells arr e f)) (hlc : len ≤ cap) (hcap : off + cap * esz ≤ arr.size) : V σ h w (.slc id off len esz st) (.slice (some ⟨b, off, none⟩) len cap)
  | slcS {id off len esz st : Nat} {u : Value} (hu : u.oneCell' = true) (ha : h.al id) (hs : ∀ L, (h.m (.blk id)).stamp = some L → st < L) : V σ h w (.slc id off len esz st) u
  | rslc {esz cap : Nat} {es : List (List AV)} {a : Addr} (vs : Nat → Nat → Value) (hsp : a.spot = none) (hF : σ.F a.block) (h1 : ∀ e ∈ es, e.length = esz ∧ ∀ c ∈ e, c.one = true) (hlc : es.length ≤ cap)
      (hc : ∀ i e, es[i]? = some e → ∀ j c, e[j]? = some c → w.cell? (a.add (i * esz + j)) = some (vs i j)) (hv : ∀ i e, es[i]? = some e → ∀ j c, e[j]? = some c → V σ h w c (vs i j)) (hz : ∀ e ∈ es, ∀ c ∈ e, Fz c) : V σ h w (.rslc esz es) (.slice (some a) es.length cap)
  | rslc0 {esz cap : Nat} {a : Option Addr} : V σ h w (.rslc esz []) (.slice a 0 cap)
  | z0 {a : Option Addr} : V σ h w .z0 (.slice a 0 0)
  | map {id b : Nat} (hs : (h.m (.blk id)).stamp = some 0) (ha : h.al id) (hr : σ.ρ (.blk id) = some b) : V σ h w (.map id) (.map (some b))
  | mapS {id : Nat} {u : Value} (hu : u.oneCell' = true) (ha : h.al id) (hs : ∀ L, (h.m (.blk id)).stamp = some L → 0 < L) : V σ h w (.map id) u
  | fn {f : Fn} {first captured : List AV} {xs ys : Array Value} (hx : xs.size = first.length) (hy : ys.size = captured.length)
      (h1 : ∀ (i : Nat) c (u : Value), first[i]? = some c → xs[i]? = some u → V σ h w c u) (h2 : ∀ (i : Nat) c (u : Value), captured[i]? = some c → ys[i]? = some u → V σ h w c u) : V σ h w (.fn f first captured) (.func f xs ys)
  | yld {id b : Nat} (hs : (h.m (.blk id)).stamp = some 0) (ha : h.al id) (hr : σ.ρ (.blk id) = some b) : V σ h w (.yld id) (.func (.yield b) #[] #[])
  | yldS {id : Nat} {u : Value} (hu : u.oneCell' = true) (ha : h.al id) (hs : ∀ L, (h.m (.blk id)).stamp = some L → 0 < L) : V σ h w (.yld id) u
  | ifc {t : TypeId} {v : AV} {u : Value} (hv : V σ h w v u) : V σ h w (.ifc t v) (.iface t u)
  | agg {cs : List AV} {us : Array Value} (hl : us.size = cs.length) (h1 : ∀ c ∈ cs, c.one = true) (hv : ∀ (i : Nat) c (u : Value), cs[i]? = some c → us[i]? = some u → V σ h w c u) : V σ h w (.agg cs) (.agg us)
  | tup {cs : List AV} {us : Array Value} (hl : us.size = cs.length) (hv : ∀ (i : Nat) c (u : Value), cs[i]? = some c → us[i]? = some u → V σ h w c u) : V σ h w (.tup cs) (.tuple us)
  | dead (u : Value) : V σ h w .dead u

/-- How the machine may have gone on: what is not in the abstract memory's own blocks stands as it stood. -/
structure Ext (σ : Sim) (h : Hp) (w : World) (σ' : Sim) (h' : Hp) (w' : World) : Prop where
  os : w'.os = w.os
  tape : w'.tape = w.tape
  output : w'.output = w.output
  size : w.heap.size ≤ w'.heap.size
  keep : ∀ b, b < w.heap.size → (∀ l, h.m l ≠ .dead → σ.ρ l ≠ some b) → w'.heap[b]? = w.heap[b]?
  shape : ∀ (b : Nat) arr e f, w.heap[b]? = some (.cells arr e f) → ∃ arr' f', w'.heap[b]? = some (.cells arr' e f') ∧ arr'.size = arr.size
  al : ∀ id, h.al id → h'.al id
  same : ∀ id st, h.al id → (h.m (.blk id)).stamp = some st → (h'.m (.blk id)).stamp = some st → σ'.ρ (.blk id) = σ.ρ (.blk id)
  grow : ∀ id L', h.al id → (h'.m (.blk id)).stamp = some L' → ∃ L, (h.m (.blk id)).stamp = some L ∧ L ≤ L'
  frozen : ∀ b, σ.F b → σ'.F b
  fresh : ∀ b, σ'.F b → σ.F b ∨ w.heap.size ≤ b ∨ ∃ l, h.m l ≠ .dead ∧ σ.ρ l = some b
  new : ∀ l b, h'.m l ≠ .dead → σ'.ρ l = some b → w.heap.size ≤ b ∨ (h.m l ≠ .dead ∧ σ.ρ l = some b)

/-- The abstract memory tells the world. -/
def ObjRel (σ : Sim) (h : Hp) (w : World) : AObj → Obj → Prop
  | .dead, _ => True
  | .cells cs, .cells arr _ (lo, hi) => cs.length ≤ arr.size ∧ (lo ≤ hi ∧ ∀ i, i < arr.size → ¬ (lo ≤ i ∧ i < hi)) ∧ (∀ c ∈ cs, c.one = true) ∧ ∀ (i : Nat) c, cs[i]? = some c → ∃ u, arr[i]? = some u ∧ u.oneCell' = true ∧ V σ h w c u
  | .map es clock, .map arr clock' => clock' = clock ∧ arr.size = es.length ∧ ∀ (i : Nat) e, es[i]? = some e → ∃ u, arr[i]? = some u ∧ V σ h w e.1 u.key ∧ V σ h w e.2.1 u.val ∧ u.born = e.2.2
  | .loop st pend fn tmps ps asg body, .loop r => r.state = st ∧ r.pending = pend ∧ r.fn < fn.2 ∧ r.params = ps ∧ r.assign = asg ∧ r.body = body ∧ r.tmps.size = tmps.length ∧
      ∀ (i : Nat) c (u : Value), tmps[i]? = some c → r.tmps[i]? = some u → V σ h w c u
  | _, _ => False

structure RH (σ : Sim) (h : Hp) (w : World) : Prop where
  obj : ∀ l, h.m l ≠ .dead → ∃ b o, σ.ρ l = some b ∧ w.heap[b]? = some o ∧ ObjRel σ h w (h.m l) o ∧ ¬ σ.F b
  inj : ∀ l l' b, h.m l ≠ .dead → h.m l' ≠ .dead → σ.ρ l = some b → σ.ρ l' = some b → l = l'
  F : ∀ b, σ.F b → b < w.heap.size
  al : ∀ id, h.m (.blk id) ≠ .dead → h.al id

theorem V.one {σ : Sim} {h : Hp} {w : World} {c : AV} {u : Value} (hv : V σ h w c u) (hc : c.one = true) : u.oneCell' = true := by
  cases hv <;> simp_all [AV.one, Value.oneCell']

theorem block_add (a : Addr) (n : Nat) : (a.add n).block = a.block := by unfold Addr.add; split <;> rfl
theorem spot_add (a : Addr) (n : Nat) (h : a.spot = none) : (a.add n).spot = none := by unfold Addr.add; split <;> first | exact h | rfl
theorem add_of (b o n : Nat) : (⟨b, o, none⟩ : Addr).add n = ⟨b, o + n, none⟩ := by
  unfold Addr.add
  split
  · simp_all
  · rfl

theorem cell?_congr {w w' : World} {a : Addr} (h : w'.heap[a.block]? = w.heap[a.block]?) : w'.cell? a = w.cell? a := by
  unfold World.cell?; rw [h]

section
variable {σ σ' σ'' : Sim} {h h' h'' : Hp} {w w' w'' : World}

/-- Frozen blocks stand as they stood. -/
theorem Ext.F_kept (x : Ext σ h w σ' h' w') (hr : RH σ h w) {b : Nat} (hb : σ.F b) : w'.heap[b]? = w.heap[b]? :=
  x.keep b (hr.F b hb) fun l hl e => by
    obtain ⟨b', o, h1, _, _, h4⟩ := hr.obj l hl
    rw [h1] at e
    cases e
    exact h4 hb

theorem V.ext (x : Ext σ h w σ' h' w') (hr : RH σ h w) {c : AV} {u : Value} (hv : V σ h w c u) : V σ' h' w' c u := by
  have stale : ∀ {id st : Nat}, h.al id → (∀ L, (h.m (.blk id)).stamp = some L → st < L) → ∀ L, (h'.m (.blk id)).stamp = some L → st < L := by
    intro id st ha hs L hL
    obtain ⟨L0, h0, hle⟩ := x.grow id L ha hL
    exact Nat.lt_of_lt_of_le (hs L0 h0) hle
  have one_of : ∀ {id st : Nat}, (h.m (.blk id)).stamp = some st → h.al id → (h'.m (.blk id)).stamp ≠ some st → ∀ L, (h'.m (.blk id)).stamp = some L → st < L := by
    intro id st hs ha hne L hL
    obtain ⟨L0, h0, hle⟩ := x.grow id L ha hL
    rw [hs] at h0
    cases h0
    rcases Nat.lt_or_ge st L with hlt | hge
    · exact hlt
    · exact absurd (by rw [hL]; congr 1; omega) hne
  induction hv with
  | lit v => exact .lit v
  | @ptr id off st _ hs ha hr' =>
    by_cases he : (h'.m (.blk id)).stamp = some st
    · exact .ptr he (x.al _ ha) (by rw [x.same id st ha hs he]; exact hr')
    · exact .ptrS rfl (x.al _ ha) (one_of hs ha he)
  | ptrS hu ha hs => exact .ptrS hu (x.al _ ha) (stale ha hs)
  | rptr vs hsp hF h1 hc hv hz ih =>
    exact .rptr vs hsp (x.frozen _ hF) h1 (fun i c hi => (cell?_congr (by rw [block_add]; exact x.F_kept hr hF)).trans (hc i c hi)) ih hz
  | @slc id off len esz st _ cap arr _ _ hs ha hr' hb hlc hcap =>
    by_cases he : (h'.m (.blk id)).stamp = some st
    · obtain ⟨arr', f', hb', hsz⟩ := x.shape _ arr _ _ hb
      exact .slc he (x.al _ ha) (by rw [x.same id st ha hs he]; exact hr') hb' hlc (by omega)
    · exact .slcS rfl (x.al _ ha) (one_of hs ha he)
  | slcS hu ha hs => exact .slcS hu (x.al _ ha) (stale ha hs)
  | rslc vs hsp hF h1 hlc hc hv hz ih =>
    exact .rslc vs hsp (x.frozen _ hF) h1 hlc (fun i e hi j c hj => (cell?_congr (by rw [block_add]; exact x.F_kept hr hF)).trans (hc i e hi j c hj)) ih hz
  | rslc0 => exact .rslc0
  | z0 => exact .z0
  | @map id b hs ha hr' =>
    by_cases he : (h'.m (.blk id)).stamp = some 0
    · exact .map he (x.al _ ha) (by rw [x.same id 0 ha hs he]; exact hr')
    · exact .mapS rfl (x.al _ ha) (one_of hs ha he)
  | mapS hu ha hs => exact .mapS hu (x.al _ ha) (stale ha hs)
  | @yld id b hs ha hr' =>
    by_cases he : (h'.m (.blk id)).stamp = some 0
    · exact .yld he (x.al _ ha) (by rw [x.same id 0 ha hs he]; exact hr')
    · exact .yldS rfl (x.al _ ha) (one_of hs ha he)
  | yldS hu ha hs => exact .yldS hu (x.al _ ha) (stale ha hs)
  | fn hx hy h1 h2 ih1 ih2 => exact .fn hx hy ih1 ih2
  | ifc hv ih => exact .ifc ih
  | agg hl h1 hv ih => exact .agg hl h1 ih
  | tup hl hv ih => exact .tup hl ih
  | dead u => exact .dead u

theorem Ext.refl (σ : Sim) (h : Hp) (w : World) : Ext σ h w σ h w where
  os := rfl
  tape := rfl
  output := rfl
  size := Nat.le_refl _
  keep := fun _ _ _ => rfl
  shape := fun _ arr _ f hb => ⟨arr, f, hb, rfl⟩
  al := fun _ h => h
  same := fun _ _ _ _ _ => rfl
  grow := fun _ L _ hL => ⟨L, hL, Nat.le_refl _⟩
  frozen := fun _ h => h
  fresh := fun _ h => .inl h
  new := fun _ _ h1 h2 => .inr ⟨h1, h2⟩

theorem stamp_dead {o : AObj} : o.stamp = none ↔ o = .dead := by cases o <;> simp [AObj.stamp]
theorem alive_of_stamp {o : AObj} {st : Nat} (hs : o.stamp = some st) : o ≠ .dead := by rintro rfl; simp [AObj.stamp] at hs

theorem Ext.trans (x : Ext σ h w σ' h' w') (y : Ext σ' h' w' σ'' h'' w'') : Ext σ h w σ'' h'' w'' where
  os := y.os.trans x.os
  tape := y.tape.trans x.tape
  output := y.output.trans x.output
  size := Nat.le_trans x.size y.size
  keep := fun b hb hn => by
    rw [y.keep b (Nat.lt_of_lt_of_le hb x.size) (fun l hl e => ?_)]
    · exact x.keep b hb hn
    · rcases x.new l b hl e with h1 | ⟨h1, h2⟩
      · omega
      · exact hn l h1 h2
  shape := fun _ arr _ f hb => by
    obtain ⟨arr', f', h1, h2⟩ := x.shape _ arr _ f hb
    obtain ⟨arr'', f'', h3, h4⟩ := y.shape _ arr' _ f' h1
    exact ⟨arr'', f'', h3, by omega⟩
  al := fun id ha => y.al id (x.al id ha)
  same := fun id st ha hs hs'' => by
    have hd : (h''.m (.blk id)).stamp = some st := hs''
    obtain ⟨L', h1, h2⟩ := y.grow id st (x.al id ha) hd
    obtain ⟨L, h3, h4⟩ := x.grow id L' ha h1
    rw [hs] at h3
    cases h3
    have hL : L' = st := by omega
    subst hL
    rw [y.same id L' (x.al id ha) h1 hd, x.same id L' ha hs h1]
  grow := fun id L'' ha hL => by
    obtain ⟨L', h1, h2⟩ := y.grow id L'' (x.al id ha) hL
    obtain ⟨L, h3, h4⟩ := x.grow id L' ha h1
    exact ⟨L, h3, by omega⟩
  frozen := fun b hb => y.frozen b (x.frozen b hb)
  fresh := fun b hb => by
    rcases y.fresh b hb with h1 | h1 | ⟨l, h1, h2⟩
    · exact x.fresh b h1
    · exact .inr (.inl (Nat.le_trans x.size h1))
    · rcases x.new l b h1 h2 with h3 | h3
      · exact .inr (.inl h3)
      · exact .inr (.inr ⟨l, h3⟩)
  new := fun l b' hl e' => by
    rcases y.new l b' hl e' with h1 | ⟨h1, h2⟩
    · exact .inl (Nat.le_trans x.size h1)
    · exact x.new l b' h1 h2
end
end Go.Proofs.Ytmmabdpmeijgmaa.AM
