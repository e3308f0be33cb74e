/- Steps of the abstract memory: a store, a new block, a draw, a row that grows. -/
import Derived.Test.YtmmabdpmeijgmaaA1
namespace Go.Proofs.Ytmmabdpmeijgmaa.AM
open Go

def Hp.set (h : Hp) (l : Loc) (o : AObj) : Hp := { m := fun x => if x = l then o else h.m x, al := h.al }
def Hp.new (h : Hp) (k : Nat) (o : AObj) : Hp := { m := fun x => if x = .blk k then o else h.m x, al := fun i => h.al i ∨ i = k }
def Sim.set (σ : Sim) (l : Loc) (b : Nat) : Sim := { ρ := fun x => if x = l then some b else σ.ρ x, F := σ.F }

@[simp] theorem Hp.set_same (h : Hp) (l : Loc) (o : AObj) : (h.set l o).m l = o := by simp [Hp.set]
theorem Hp.set_other (h : Hp) {l x : Loc} (o : AObj) (hx : x ≠ l) : (h.set l o).m x = h.m x := by simp [Hp.set, hx]
@[simp] theorem Hp.set_al (h : Hp) (l : Loc) (o : AObj) : (h.set l o).al = h.al := rfl
@[simp] theorem Hp.new_same (h : Hp) (k : Nat) (o : AObj) : (h.new k o).m (.blk k) = o := by simp [Hp.new]
theorem Hp.new_other (h : Hp) {k : Nat} {x : Loc} (o : AObj) (hx : x ≠ .blk k) : (h.new k o).m x = h.m x := by simp [Hp.new, hx]
@[simp] theorem Sim.set_same (σ : Sim) (l : Loc) (b : Nat) : (σ.set l b).ρ l = some b := by simp [Sim.set]
theorem Sim.set_other (σ : Sim) {l x : Loc} (b : Nat) (hx : x ≠ l) : (σ.set l b).ρ x = σ.ρ x := by simp [Sim.set, hx]
@[simp] theorem Sim.set_F (σ : Sim) (l : Loc) (b : Nat) : (σ.set l b).F = σ.F := rfl

theorem heap_setCell_other (w : World) (a : Addr) (u : Value) (k : Nat) (h : k ≠ a.block) : (w.setCell a u).heap[k]? = w.heap[k]? := by
  simp only [World.setCell, Array.getElem?_modify]
  rw [if_neg (by omega)]
theorem heap_setCell_same (w : World) (b i : Nat) (u : Value) {arr : Array Value} {e : TypeId} {f : Nat × Nat} (hb : w.heap[b]? = some (.cells arr e f)) :
    (w.setCell ⟨b, i, none⟩ u).heap[b]? = some (.cells (arr.setIfInBounds i u) e f) := by
  simp [World.setCell, Array.getElem?_modify, hb]
theorem heap_alloc_old (w : World) (o : Obj) (k : Nat) (h : k < w.heap.size) : (w.alloc o).heap[k]? = w.heap[k]? := by
  show (w.heap.push o)[k]? = _
  rw [Array.getElem?_push, if_neg (by omega)]
theorem heap_alloc_same (w : World) (o : Obj) : (w.alloc o).heap[w.heap.size]? = some o := by
  show (w.heap.push o)[w.heap.size]? = _
  simp

section
variable {σ σ' : Sim} {h h' : Hp} {w w' : World} {P : Program}

theorem lt_of_heap {b : Nat} {o : Obj} (hb : w.heap[b]? = some o) : b < w.heap.size := by
  rcases Nat.lt_or_ge b w.heap.size with h | h
  · exact h
  · rw [Array.getElem?_eq_none h] at hb; cases hb

theorem RH.cells (hr : RH σ h w) {l : Loc} {cs : List AV} (hl : h.m l = .cells cs) : ∃ b arr e lo hi, σ.ρ l = some b ∧ w.heap[b]? = some (.cells arr e (lo, hi)) ∧ cs.length ≤ arr.size ∧
    (lo ≤ hi ∧ ∀ i, i < arr.size → ¬ (lo ≤ i ∧ i < hi)) ∧ (∀ c ∈ cs, c.one = true) ∧ (∀ (i : Nat) c, cs[i]? = some c → ∃ u, arr[i]? = some u ∧ u.oneCell' = true ∧ V σ h w c u) ∧ ¬ σ.F b := by
  obtain ⟨b, o, h1, h2, h3, h4⟩ := hr.obj l (by rw [hl]; simp)
  rw [hl] at h3
  cases o <;> simp only [ObjRel] at h3
  rename_i arr e f
  obtain ⟨lo, hi⟩ := f
  exact ⟨b, arr, e, lo, hi, h1, h2, h3.1, h3.2.1, h3.2.2.1, h3.2.2.2, h4⟩

/-- A cell of a block of the abstract memory is read. -/
theorem RH.load (hr : RH σ h w) {l : Loc} {cs : List AV} {b i : Nat} {c : AV} (hl : h.m l = .cells cs) (hb : σ.ρ l = some b) (hi : cs[i]? = some c) :
    ∃ u, w.cell? ⟨b, i, none⟩ = some u ∧ u.oneCell' = true ∧ V σ h w c u := by
  obtain ⟨b', arr, e, lo, hi', h1, h2, _, _, _, h6, _⟩ := hr.cells hl
  rw [hb] at h1
  cases h1
  obtain ⟨u, h7, h8, h9⟩ := h6 i c hi
  exact ⟨u, by simp [World.cell?, h2, h7], h8, h9⟩

theorem obj_ext (x : Ext σ h w σ' h' w') (hr : RH σ h w) {a : AObj} {o : Obj} (ho : ObjRel σ h w a o) : ObjRel σ' h' w' a o := by
  cases a with
  | dead => trivial
  | cells cs =>
    cases o <;> simp only [ObjRel] at ho ⊢
    rename_i arr e f
    obtain ⟨lo, hi⟩ := f
    obtain ⟨h1, h2, h3, h4⟩ := ho
    exact ⟨h1, h2, h3, fun i c hi => let ⟨u, h5, h6, h7⟩ := h4 i c hi; ⟨u, h5, h6, h7.ext x hr⟩⟩
  | map es clock =>
    cases o <;> simp only [ObjRel] at ho ⊢
    obtain ⟨h1, h2, h4⟩ := ho
    exact ⟨h1, h2, fun i c hi => let ⟨u, h5, h6, h7, h8⟩ := h4 i c hi; ⟨u, h5, h6.ext x hr, h7.ext x hr, h8⟩⟩
  | loop st pend fn tmps ps asg body =>
    cases o <;> simp only [ObjRel] at ho ⊢
    obtain ⟨h1, h2, h3, h4, h5, h6, h7, h8⟩ := ho
    exact ⟨h1, h2, h3, h4, h5, h6, h7, fun i c u hi hu => (h8 i c u hi hu).ext x hr⟩

/-- One cell is written. -/
theorem RH.setCell (hr : RH σ h w) {l : Loc} {cs : List AV} {b i : Nat} {c : AV} {u : Value} (hl : h.m l = .cells cs) (hb : σ.ρ l = some b) (hi : i < cs.length)
    (hv : V σ h w c u) (h1 : c.one = true) :
    (store ⟨b, i, none⟩ u).run P w = .ok () (w.setCell ⟨b, i, none⟩ u) ∧ Ext σ h w σ (h.set l (.cells (cs.set i c))) (w.setCell ⟨b, i, none⟩ u) ∧ RH σ (h.set l (.cells (cs.set i c))) (w.setCell ⟨b, i, none⟩ u) := by
  obtain ⟨b', arr, e, lo, hi', hb', hw, hlen, hfz, hone, hcs, hF⟩ := hr.cells hl
  rw [hb] at hb'
  cases hb'
  have hu := hv.one h1
  have hia : i < arr.size := by omega
  have hcell : w.cell? ⟨b, i, none⟩ = some arr[i] := by simp [World.cell?, hw, hia]
  have hfr : w.frozen? ⟨b, i, none⟩ = false := by
    have := hfz.2 i hia
    simp only [World.frozen?, hw]
    simp only [Bool.and_eq_false_imp, decide_eq_true_eq, decide_eq_false_iff_not]
    omega
  have hst : ∀ id, ((h.set l (.cells (cs.set i c))).m (.blk id)).stamp = (h.m (.blk id)).stamp := by
    intro id
    by_cases hid : Loc.blk id = l
    · rw [hid, hl]; simp [AObj.stamp]
    · rw [Hp.set_other _ _ hid]
  have x : Ext σ h w σ (h.set l (.cells (cs.set i c))) (w.setCell ⟨b, i, none⟩ u) := {
    os := rfl
    tape := rfl
    output := rfl
    size := by simp
    keep := fun b' hb' hn => heap_setCell_other _ _ _ _ (fun he => hn l (by rw [hl]; simp) (by rw [hb]; simp at he; rw [he]))
    shape := fun b' arr' e' f' hb' => by
      by_cases he : b' = b
      · subst he
        rw [hw] at hb'
        cases hb'
        exact ⟨_, _, heap_setCell_same w b' i u hw, by simp⟩
      · exact ⟨arr', f', by rw [heap_setCell_other _ _ _ _ (by simpa using he)]; exact hb', rfl⟩
    al := fun _ ha => ha
    same := fun _ _ _ _ _ => rfl
    grow := fun id L _ hL => ⟨L, by rw [← hst id]; exact hL, Nat.le_refl _⟩
    frozen := fun _ hf => hf
    fresh := fun _ hf => .inl hf
    new := fun l' b' hl' e' => .inr ⟨by
      by_cases hid : l' = l
      · rw [hid, hl]; simp
      · rw [Hp.set_other _ _ hid] at hl'; exact hl', e'⟩ }
  refine ⟨?_, x, ?_⟩
  · rw [run_store _ _ _ _ _ hu, hcell, hfr]; rfl
  · refine ⟨fun l' hl' => ?_, fun l1 l2 b' h1' h2' => ?_, fun b' hb' => by simpa using hr.F b' hb', fun id hid => ?_⟩
    · by_cases hid : l' = l
      · subst hid
        refine ⟨b, _, hb, heap_setCell_same w b i u hw, ?_, hF⟩
        rw [Hp.set_same]
        refine ⟨by simpa using hlen, ⟨hfz.1, fun j hj => hfz.2 j (by simpa using hj)⟩, fun c' hc' => ?_, fun j c' hj => ?_⟩
        · rcases List.mem_or_eq_of_mem_set hc' with h3 | h3
          · exact hone c' h3
          · rw [h3]; exact h1
        · rw [List.getElem?_set] at hj
          by_cases hij : i = j
          · subst hij
            rw [if_pos rfl, if_pos hi] at hj
            cases hj
            exact ⟨u, by simp [hia], hu, hv.ext x hr⟩
          · rw [if_neg hij] at hj
            obtain ⟨u', h5, h6, h7⟩ := hcs j c' hj
            exact ⟨u', by rw [Array.getElem?_setIfInBounds, if_neg hij]; exact h5, h6, h7.ext x hr⟩
      · rw [Hp.set_other _ _ hid] at hl' ⊢
        obtain ⟨b', o, h5, h6, h7, h8⟩ := hr.obj l' hl'
        refine ⟨b', o, h5, ?_, obj_ext x hr h7, h8⟩
        rw [heap_setCell_other]
        · exact h6
        · simp only
          intro he
          subst he
          exact hid (hr.inj l' l b' hl' (by rw [hl]; simp) h5 hb)
    · have k1 : h.m l1 ≠ .dead := by
        by_cases hid : l1 = l
        · rw [hid, hl]; simp
        · rw [Hp.set_other _ _ hid] at h1'; exact h1'
      have k2 : h.m l2 ≠ .dead := by
        by_cases hid : l2 = l
        · rw [hid, hl]; simp
        · rw [Hp.set_other _ _ hid] at h2'; exact h2'
      exact hr.inj l1 l2 b' k1 k2
    · by_cases hid' : Loc.blk id = l
      · exact hr.al id (by rw [hid', hl]; simp)
      · rw [Hp.set_other _ _ hid'] at hid; exact hr.al id hid

/-- Cells written from a place on. -/
def setAt : List AV → Nat → List AV → List AV
  | cs, _, [] => cs
  | cs, i, c :: r => setAt (cs.set i c) (i + 1) r

theorem length_setAt : ∀ (ns : List AV) (cs : List AV) (i : Nat), (setAt cs i ns).length = cs.length
  | [], _, _ => rfl
  | _ :: r, cs, i => by rw [setAt, length_setAt r]; simp

theorem Hp.set_set (h : Hp) (l : Loc) (o o' : AObj) : (h.set l o).set l o' = h.set l o' := by
  unfold Hp.set
  congr 1
  funext x
  by_cases hx : x = l <;> simp [hx]

theorem Hp.set_id (h : Hp) (l : Loc) (o : AObj) (hl : h.m l = o) : h.set l o = h := by
  obtain ⟨m, al⟩ := h
  unfold Hp.set
  congr 1
  funext x
  by_cases hx : x = l
  · rw [if_pos hx, hx]; exact hl.symm
  · rw [if_neg hx]

theorem RH.storeCells {l : Loc} {b : Nat} (hb : σ.ρ l = some b) : ∀ (us : List Value) (ns cs : List AV) (h : Hp) (w : World) (off j : Nat), RH σ h w → h.m l = .cells cs →
    off + j + ns.length ≤ cs.length → us.length = ns.length → (∀ (i : Nat) c u, ns[i]? = some c → us[i]? = some u → V σ h w c u) → (∀ c ∈ ns, c.one = true) →
    ∃ w', (Go.storeCells ⟨b, off, none⟩ us j).run P w = .ok () w' ∧ Ext σ h w σ (h.set l (.cells (setAt cs (off + j) ns))) w' ∧ RH σ (h.set l (.cells (setAt cs (off + j) ns))) w'
  | [], ns, cs, h, w, off, j, hr, hl, _, hus, _, _ => by
    have hns : ns = [] := List.eq_nil_of_length_eq_zero (by simpa using hus.symm)
    subst hns
    refine ⟨w, rfl, ?_⟩
    simp only [setAt]
    rw [Hp.set_id _ _ _ hl]
    exact ⟨Ext.refl _ _ _, hr⟩
  | u :: us, ns, cs, h, w, off, j, hr, hl, hle, hus, hvs, h1 => by
    match ns, hus with
    | n :: ns, hus =>
      have hlt : off + j < cs.length := by simp at hle; omega
      have hv := hvs 0 n u rfl rfl
      obtain ⟨hst, x, hr'⟩ := RH.setCell (P := P) hr hl hb hlt hv (h1 n (by simp))
      obtain ⟨w', k1, k2, k3⟩ := RH.storeCells hb us ns (cs.set (off + j) n) (h.set l (.cells (cs.set (off + j) n))) (w.setCell ⟨b, off + j, none⟩ u) off (j + 1) hr'
        (Hp.set_same _ _ _) (by simp at hle ⊢; omega) (by simpa using hus) (fun i c u' hc hu' => (hvs (i + 1) c u' (by simpa using hc) (by simpa using hu')).ext x hr) (fun c hc => h1 c (by simp [hc]))
      refine ⟨w', ?_, ?_, ?_⟩
      · unfold Go.storeCells
        rw [add_of]
        simp only [Sem.run_bind, hst, Result.andThen_ok]
        exact k1
      · rw [Hp.set_set] at k2
        exact x.trans k2
      · rw [Hp.set_set] at k3
        exact k3

/-- A new block. -/
theorem RH.alloc (hr : RH σ h w) {k : Nat} (hk : ¬ h.al k) {cs : List AV} {arr : Array Value} {e : TypeId} {lo hi : Nat} (hlen : cs.length ≤ arr.size) (h1 : ∀ c ∈ cs, c.one = true)
    (hfz : lo ≤ hi ∧ ∀ i, i < arr.size → ¬ (lo ≤ i ∧ i < hi)) (hcs : ∀ (i : Nat) c, cs[i]? = some c → ∃ u, arr[i]? = some u ∧ u.oneCell' = true ∧ V σ h w c u) :
    Ext σ h w (σ.set (.blk k) w.heap.size) (h.new k (.cells cs)) (w.alloc (.cells arr e (lo, hi))) ∧ RH (σ.set (.blk k) w.heap.size) (h.new k (.cells cs)) (w.alloc (.cells arr e (lo, hi))) := by
  have hkd : h.m (.blk k) = .dead := by
    cases hd : h.m (.blk k) with
    | dead => rfl
    | cells _ => exact absurd (hr.al k (by rw [hd]; simp)) hk
    | map _ _ => exact absurd (hr.al k (by rw [hd]; simp)) hk
    | loop _ _ _ _ _ _ _ => exact absurd (hr.al k (by rw [hd]; simp)) hk
  have x : Ext σ h w (σ.set (.blk k) w.heap.size) (h.new k (.cells cs)) (w.alloc (.cells arr e (lo, hi))) := {
    os := rfl
    tape := rfl
    output := rfl
    size := by simp
    keep := fun b' hb' _ => heap_alloc_old _ _ _ hb'
    shape := fun b' arr' e' f' hb' => ⟨arr', f', by rw [heap_alloc_old _ _ _ (lt_of_heap hb')]; exact hb', rfl⟩
    al := fun _ ha => .inl ha
    same := fun id st ha _ _ => Sim.set_other _ _ (by simp; rintro rfl; exact hk ha)
    grow := fun id L ha hL => ⟨L, by
      rw [Hp.new_other _ _ (by simp; rintro rfl; exact hk ha)] at hL
      exact hL, Nat.le_refl _⟩
    frozen := fun _ hf => hf
    fresh := fun _ hf => .inl hf
    new := fun l' b' hl' e' => by
      by_cases hid : l' = .blk k
      · subst hid
        rw [Sim.set_same] at e'
        cases e'
        exact .inl (Nat.le_refl _)
      · rw [Sim.set_other _ _ hid] at e'
        rw [Hp.new_other _ _ hid] at hl'
        exact .inr ⟨hl', e'⟩ }
  refine ⟨x, fun l' hl' => ?_, fun l1 l2 b' h1' h2' e1 e2 => ?_, fun b' hb' => ?_, fun id hid => ?_⟩
  · by_cases hid : l' = .blk k
    · subst hid
      refine ⟨_, _, Sim.set_same _ _ _, heap_alloc_same _ _, ?_, fun hF => ?_⟩
      · rw [Hp.new_same]
        exact ⟨hlen, hfz, h1, fun i c hi => let ⟨u, h5, h6, h7⟩ := hcs i c hi; ⟨u, h5, h6, h7.ext x hr⟩⟩
      · have := hr.F _ hF
        omega
    · rw [Hp.new_other _ _ hid] at hl' ⊢
      obtain ⟨b', o, h5, h6, h7, h8⟩ := hr.obj l' hl'
      exact ⟨b', o, by rw [Sim.set_other _ _ hid]; exact h5, by rw [heap_alloc_old _ _ _ (lt_of_heap h6)]; exact h6, obj_ext x hr h7, h8⟩
  · have old : ∀ l', h.m l' ≠ .dead → σ.ρ l' = some w.heap.size → False := fun l' hl' he => by
      obtain ⟨b'', o, h5, h6, _⟩ := hr.obj l' hl'
      rw [he] at h5
      cases h5
      exact absurd (lt_of_heap h6) (by omega)
    by_cases i1 : l1 = .blk k <;> by_cases i2 : l2 = .blk k
    · rw [i1, i2]
    · subst i1
      rw [Sim.set_same] at e1
      cases e1
      rw [Sim.set_other _ _ i2] at e2
      rw [Hp.new_other _ _ i2] at h2'
      exact (old l2 h2' e2).elim
    · subst i2
      rw [Sim.set_same] at e2
      cases e2
      rw [Sim.set_other _ _ i1] at e1
      rw [Hp.new_other _ _ i1] at h1'
      exact (old l1 h1' e1).elim
    · rw [Sim.set_other _ _ i1] at e1
      rw [Sim.set_other _ _ i2] at e2
      rw [Hp.new_other _ _ i1] at h1'
      rw [Hp.new_other _ _ i2] at h2'
      exact hr.inj l1 l2 b' h1' h2' e1 e2
  · have := hr.F b' hb'
    simp
    omega
  · by_cases hid' : id = k
    · exact .inr hid'
    · rw [Hp.new_other _ _ (by simpa using hid')] at hid
      exact .inl (hr.al id hid)
end
end Go.Proofs.Ytmmabdpmeijgmaa.AM
