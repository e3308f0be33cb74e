/- More steps of the abstract memory: a frame's own variable, a row that grows, maps, draws, and blocks that are frozen. -/
import Derived.Test.YtmmabdpmeijgmaaA2
namespace Go.Proofs.Ytmmabdpmeijgmaa.AM
open Go
section
variable {σ σ' : Sim} {h h' : Hp} {w w' : World} {P : Program}

theorem hasnt_new (hr : RH σ h w) (l' : Loc) (hl' : h.m l' ≠ .dead) (he : σ.ρ l' = some w.heap.size) : False := by
  obtain ⟨b'', o, h5, h6, _⟩ := hr.obj l' hl'
  rw [he] at h5
  cases h5
  exact absurd (lt_of_heap h6) (by omega)

/-- A place gets a new block: what was there is left behind. 'hg': if it is a block's, its stamp grows. -/
theorem RH.renew (hr : RH σ h w) {l : Loc} {cs : List AV} {arr : Array Value} {e : TypeId} {lo hi : Nat} (hlen : cs.length ≤ arr.size) (h1 : ∀ c ∈ cs, c.one = true)
    (hfz : lo ≤ hi ∧ ∀ i, i < arr.size → ¬ (lo ≤ i ∧ i < hi)) (hcs : ∀ (i : Nat) c, cs[i]? = some c → ∃ u, arr[i]? = some u ∧ u.oneCell' = true ∧ V σ h w c u)
    (hg : ∀ id, l = .blk id → h.al id ∧ ∃ L, (h.m l).stamp = some L ∧ L < cs.length) :
    Ext σ h w (σ.set l w.heap.size) (h.set l (.cells cs)) (w.alloc (.cells arr e (lo, hi))) ∧ RH (σ.set l w.heap.size) (h.set l (.cells cs)) (w.alloc (.cells arr e (lo, hi))) := by
  have x : Ext σ h w (σ.set l w.heap.size) (h.set l (.cells cs)) (w.alloc (.cells arr e (lo, hi))) := {
    os := rfl
    tape := rfl
    output := rfl
    size := by simp
    keep := fun b' hb' _ => heap_alloc_old _ _ _ hb'
    shape := fun b' arr' e' f' hb' => ⟨arr', f', by rw [heap_alloc_old _ _ _ (lt_of_heap hb')]; exact hb', rfl⟩
    al := fun _ ha => ha
    same := fun id st _ hs hs' => by
      by_cases hid : Loc.blk id = l
      · obtain ⟨_, L, h3, h4⟩ := hg id hid.symm
        rw [hid] at hs
        rw [h3] at hs
        cases hs
        rw [hid, Hp.set_same] at hs'
        simp [AObj.stamp] at hs'
        omega
      · exact Sim.set_other _ _ hid
    grow := fun id L' _ hL => by
      by_cases hid : Loc.blk id = l
      · obtain ⟨_, L, h3, h4⟩ := hg id hid.symm
        rw [hid, Hp.set_same] at hL
        simp [AObj.stamp] at hL
        exact ⟨L, by rw [hid]; exact h3, by omega⟩
      · rw [Hp.set_other _ _ hid] at hL
        exact ⟨L', hL, Nat.le_refl _⟩
    frozen := fun _ hf => hf
    fresh := fun _ hf => .inl hf
    new := fun l' b' hl' e' => by
      by_cases hid : l' = l
      · subst hid
        rw [Sim.set_same] at e'
        cases e'
        exact .inl (Nat.le_refl _)
      · rw [Sim.set_other _ _ hid] at e'
        rw [Hp.set_other _ _ hid] at hl'
        exact .inr ⟨hl', e'⟩ }
  refine ⟨x, fun l' hl' => ?_, fun l1 l2 b' h1' h2' e1 e2 => ?_, fun b' hb' => ?_, fun id hid => ?_⟩
  · by_cases hid : l' = l
    · subst hid
      refine ⟨_, _, Sim.set_same _ _ _, heap_alloc_same _ _, ?_, fun hF => ?_⟩
      · rw [Hp.set_same]
        exact ⟨hlen, hfz, h1, fun i c hi => let ⟨u, h5, h6, h7⟩ := hcs i c hi; ⟨u, h5, h6, h7.ext x hr⟩⟩
      · have := hr.F _ hF
        omega
    · rw [Hp.set_other _ _ hid] at hl' ⊢
      obtain ⟨b', o, h5, h6, h7, h8⟩ := hr.obj l' hl'
      exact ⟨b', o, by rw [Sim.set_other _ _ hid]; exact h5, by rw [heap_alloc_old _ _ _ (lt_of_heap h6)]; exact h6, obj_ext x hr h7, h8⟩
  · by_cases i1 : l1 = l <;> by_cases i2 : l2 = l
    · rw [i1, i2]
    · subst i1
      rw [Sim.set_same] at e1
      cases e1
      rw [Sim.set_other _ _ i2] at e2
      rw [Hp.set_other _ _ i2] at h2'
      exact (hasnt_new hr l2 h2' e2).elim
    · subst i2
      rw [Sim.set_same] at e2
      cases e2
      rw [Sim.set_other _ _ i1] at e1
      rw [Hp.set_other _ _ i1] at h1'
      exact (hasnt_new hr l1 h1' e1).elim
    · rw [Sim.set_other _ _ i1] at e1
      rw [Sim.set_other _ _ i2] at e2
      rw [Hp.set_other _ _ i1] at h1'
      rw [Hp.set_other _ _ i2] at h2'
      exact hr.inj l1 l2 b' h1' h2' e1 e2
  · have := hr.F b' hb'
    simp
    omega
  · by_cases hid' : Loc.blk id = l
    · exact (hg id hid'.symm).1
    · rw [Hp.set_other _ _ hid'] at hid
      exact hr.al id hid

/-- A place is given up (a slot that held a variable is written over). -/
theorem RH.drop (hr : RH σ h w) (l : Loc) : Ext σ h w σ (h.set l .dead) w ∧ RH σ (h.set l .dead) w := by
  have x : Ext σ h w σ (h.set l .dead) w := {
    os := rfl
    tape := rfl
    output := rfl
    size := Nat.le_refl _
    keep := fun _ _ _ => rfl
    shape := fun b' arr' e' f' hb' => ⟨arr', f', hb', rfl⟩
    al := fun _ ha => ha
    same := fun _ _ _ _ _ => rfl
    grow := fun id L' _ hL => by
      by_cases hid : Loc.blk id = l
      · rw [hid, Hp.set_same] at hL
        simp [AObj.stamp] at hL
      · rw [Hp.set_other _ _ hid] at hL
        exact ⟨L', hL, Nat.le_refl _⟩
    frozen := fun _ hf => hf
    fresh := fun _ hf => .inl hf
    new := fun l' b' hl' e' => by
      by_cases hid : l' = l
      · rw [hid, Hp.set_same] at hl'
        exact absurd rfl hl'
      · rw [Hp.set_other _ _ hid] at hl'
        exact .inr ⟨hl', e'⟩ }
  refine ⟨x, fun l' hl' => ?_, fun l1 l2 b' h1' h2' e1 e2 => ?_, hr.F, fun id hid => ?_⟩
  · by_cases hid : l' = l
    · rw [hid, Hp.set_same] at hl'
      exact absurd rfl hl'
    · rw [Hp.set_other _ _ hid] at hl' ⊢
      obtain ⟨b', o, h5, h6, h7, h8⟩ := hr.obj l' hl'
      exact ⟨b', o, h5, h6, obj_ext x hr h7, h8⟩
  · have k : ∀ l', (h.set l .dead).m l' ≠ .dead → h.m l' ≠ .dead := fun l' hl' => by
      by_cases hid : l' = l
      · rw [hid, Hp.set_same] at hl'
        exact absurd rfl hl'
      · rw [Hp.set_other _ _ hid] at hl'; exact hl'
    exact hr.inj l1 l2 b' (k _ h1') (k _ h2') e1 e2
  · by_cases hid' : Loc.blk id = l
    · rw [hid', Hp.set_same] at hid
      exact absurd rfl hid
    · rw [Hp.set_other _ _ hid'] at hid
      exact hr.al id hid

/-- The world has only drawn. -/
theorem Ext.heap (h1 : w'.heap = w.heap) (h2 : w'.os = w.os) (h3 : w'.tape = w.tape) (h4 : w'.output = w.output) : Ext σ h w σ h w' where
  os := h2
  tape := h3
  output := h4
  size := by rw [h1]; exact Nat.le_refl _
  keep := fun _ _ _ => by rw [h1]
  shape := fun b' arr' e' f' hb' => ⟨arr', f', by rw [h1]; exact hb', rfl⟩
  al := fun _ ha => ha
  same := fun _ _ _ _ _ => rfl
  grow := fun _ L' _ hL => ⟨L', hL, Nat.le_refl _⟩
  frozen := fun _ hf => hf
  fresh := fun _ hf => .inl hf
  new := fun _ _ hl' e' => .inr ⟨hl', e'⟩

theorem RH.heap (hr : RH σ h w) (x : Ext σ h w σ h w') (h1 : w'.heap = w.heap) : RH σ h w' :=
  ⟨fun l' hl' => let ⟨b', o, h5, h6, h7, h8⟩ := hr.obj l' hl'; ⟨b', o, h5, by rw [h1]; exact h6, obj_ext x hr h7, h8⟩, hr.inj, fun b hb => by rw [h1]; exact hr.F b hb, hr.al⟩

/-- One cell is written right behind what is told of a block. -/
theorem RH.push (hr : RH σ h w) {id : Nat} {cs : List AV} {b : Nat} {c : AV} {u : Value} {arr : Array Value} {e : TypeId} {f : Nat × Nat} (hl : h.m (.blk id) = .cells cs) (hb : σ.ρ (.blk id) = some b)
    (ha : w.heap[b]? = some (.cells arr e f)) (hi : cs.length < arr.size) (hv : V σ h w c u) (h1 : c.one = true) :
    (store ⟨b, cs.length, none⟩ u).run P w = .ok () (w.setCell ⟨b, cs.length, none⟩ u) ∧ Ext σ h w σ (h.set (.blk id) (.cells (cs ++ [c]))) (w.setCell ⟨b, cs.length, none⟩ u) ∧
      RH σ (h.set (.blk id) (.cells (cs ++ [c]))) (w.setCell ⟨b, cs.length, none⟩ u) := by
  obtain ⟨b', arr', e', lo, hi', hb', hw, hlen, hfz, hone, hcs, hF⟩ := hr.cells hl
  rw [hb] at hb'
  cases hb'
  rw [ha] at hw
  cases hw
  have hu := hv.one h1
  have hcell : w.cell? ⟨b, cs.length, none⟩ = some arr[cs.length] := by simp [World.cell?, ha, hi]
  have hfr : w.frozen? ⟨b, cs.length, none⟩ = false := by
    have := hfz.2 cs.length hi
    simp only [World.frozen?, ha]
    simp only [Bool.and_eq_false_imp, decide_eq_true_eq, decide_eq_false_iff_not]
    omega
  have x : Ext σ h w σ (h.set (.blk id) (.cells (cs ++ [c]))) (w.setCell ⟨b, cs.length, none⟩ u) := {
    os := rfl
    tape := rfl
    output := rfl
    size := by simp
    keep := fun b' hb' hn => heap_setCell_other _ _ _ _ (fun he => hn (.blk id) (by rw [hl]; simp) (by rw [hb]; simp at he; rw [he]))
    shape := fun b' arr' e' f' hb' => by
      by_cases he : b' = b
      · subst he
        rw [ha] at hb'
        cases hb'
        exact ⟨_, _, heap_setCell_same w b' _ u ha, by simp⟩
      · exact ⟨arr', f', by rw [heap_setCell_other _ _ _ _ (by simpa using he)]; exact hb', rfl⟩
    al := fun _ ha => ha
    same := fun _ _ _ _ _ => rfl
    grow := fun i L' _ hL => by
      by_cases hid : Loc.blk i = .blk id
      · rw [hid, Hp.set_same] at hL
        simp [AObj.stamp] at hL
        exact ⟨cs.length, by rw [hid, hl]; rfl, by omega⟩
      · rw [Hp.set_other _ _ hid] at hL
        exact ⟨L', hL, Nat.le_refl _⟩
    frozen := fun _ hf => hf
    fresh := fun _ hf => .inl hf
    new := fun l' b' hl' e' => .inr ⟨by
      by_cases hid : l' = .blk id
      · rw [hid, hl]; simp
      · rw [Hp.set_other _ _ hid] at hl'; exact hl', e'⟩ }
  refine ⟨?_, x, ?_⟩
  · rw [run_store _ _ _ _ _ hu, hcell, hfr]; rfl
  · refine ⟨fun l' hl' => ?_, fun l1 l2 b' h1' h2' => ?_, fun b' hb' => by simpa using hr.F b' hb', fun i hid => ?_⟩
    · by_cases hid : l' = .blk id
      · subst hid
        refine ⟨b, _, hb, heap_setCell_same w b _ u ha, ?_, hF⟩
        rw [Hp.set_same]
        refine ⟨by simp; omega, ⟨hfz.1, fun j hj => hfz.2 j (by simpa using hj)⟩, fun c' hc' => ?_, fun j c' hj => ?_⟩
        · rcases List.mem_append.1 hc' with h3 | h3
          · exact hone c' h3
          · rw [List.mem_singleton.1 h3]; exact h1
        · rw [List.getElem?_append] at hj
          by_cases hjl : j < cs.length
          · rw [if_pos hjl] at hj
            obtain ⟨u', h5, h6, h7⟩ := hcs j c' hj
            exact ⟨u', by rw [Array.getElem?_setIfInBounds, if_neg (by omega)]; exact h5, h6, h7.ext x hr⟩
          · rw [if_neg hjl] at hj
            have hj0 : j = cs.length := by
              rcases Nat.lt_or_ge (j - cs.length) 1 with h9 | h9
              · omega
              · rw [List.getElem?_eq_none (by simpa using h9)] at hj; cases hj
            subst hj0
            simp at hj
            subst hj
            exact ⟨u, by simp [hi], hu, hv.ext x hr⟩
      · rw [Hp.set_other _ _ hid] at hl' ⊢
        obtain ⟨b', o, h5, h6, h7, h8⟩ := hr.obj l' hl'
        refine ⟨b', o, h5, ?_, obj_ext x hr h7, h8⟩
        rw [heap_setCell_other]
        · exact h6
        · simp only
          intro he
          subst he
          exact hid (hr.inj l' _ b' hl' (by rw [hl]; simp) h5 hb)
    · have k : ∀ l', (h.set (.blk id) (.cells (cs ++ [c]))).m l' ≠ .dead → h.m l' ≠ .dead := fun l' hl' => by
        by_cases hid : l' = .blk id
        · rw [hid, hl]; simp
        · rw [Hp.set_other _ _ hid] at hl'; exact hl'
      exact hr.inj l1 l2 b' (k _ h1') (k _ h2')
    · by_cases hid' : Loc.blk i = .blk id
      · exact hr.al i (by rw [hid', hl]; simp)
      · rw [Hp.set_other _ _ hid'] at hid; exact hr.al i hid

theorem RH.pushes {id : Nat} {b : Nat} (hb : σ.ρ (.blk id) = some b) : ∀ (us : List Value) (ns cs : List AV) (h : Hp) (w : World) (n0 j : Nat) (arr : Array Value) (e : TypeId) (f : Nat × Nat), RH σ h w → h.m (.blk id) = .cells cs →
    cs.length = n0 + j → w.heap[b]? = some (.cells arr e f) → cs.length + ns.length ≤ arr.size → us.length = ns.length → (∀ (i : Nat) c u, ns[i]? = some c → us[i]? = some u → V σ h w c u) → (∀ c ∈ ns, c.one = true) →
    ∃ w', (Go.storeCells ⟨b, n0, none⟩ us j).run P w = .ok () w' ∧ Ext σ h w σ (h.set (.blk id) (.cells (cs ++ ns))) w' ∧ RH σ (h.set (.blk id) (.cells (cs ++ ns))) w'
  | [], ns, cs, h, w, n0, j, arr, e, f, hr, hl, _, _, _, hus, _, _ => by
    have hns : ns = [] := List.eq_nil_of_length_eq_zero (by simpa using hus.symm)
    subst hns
    refine ⟨w, rfl, ?_⟩
    rw [List.append_nil, Hp.set_id _ _ _ hl]
    exact ⟨Ext.refl _ _ _, hr⟩
  | u :: us, ns, cs, h, w, n0, j, arr, e, f, hr, hl, hn, ha, hle, hus, hvs, h1 => by
    match ns, hus with
    | n :: ns, hus =>
      obtain ⟨hst, x, hr'⟩ := RH.push (P := P) hr hl hb ha (by simp at hle; omega) (hvs 0 n u rfl rfl) (h1 n (by simp))
      obtain ⟨arr', f', ha', hsz⟩ := x.shape b arr e f ha
      obtain ⟨w', k1, k2, k3⟩ := RH.pushes hb us ns (cs ++ [n]) (h.set (.blk id) (.cells (cs ++ [n]))) (w.setCell ⟨b, cs.length, none⟩ u) n0 (j + 1) arr' e f' hr'
        (Hp.set_same _ _ _) (by simp; omega) ha' (by simp at hle ⊢; omega) (by simpa using hus) (fun i c u' hc hu' => (hvs (i + 1) c u' (by simpa using hc) (by simpa using hu')).ext x hr) (fun c hc => h1 c (by simp [hc]))
      refine ⟨w', ?_, ?_, ?_⟩
      · unfold Go.storeCells
        rw [add_of, ← hn]
        simp only [Sem.run_bind, hst, Result.andThen_ok]
        exact k1
      · rw [Hp.set_set, List.append_assoc] at k2
        exact x.trans k2
      · rw [Hp.set_set, List.append_assoc] at k3
        exact k3

/-- Blocks are frozen: they are no longer the abstract memory's own; nothing of the world turns. -/
def Hp.kill (h : Hp) (K : Nat → Bool) : Hp := { m := fun x => match x with | .blk id => if K id then .dead else h.m (.blk id) | l => h.m l, al := h.al }
def Sim.kill (σ : Sim) (h : Hp) (K : Nat → Bool) : Sim := { ρ := σ.ρ, F := fun b => σ.F b ∨ ∃ id, K id = true ∧ (∃ cs, h.m (.blk id) = .cells cs) ∧ σ.ρ (.blk id) = some b }
theorem Hp.kill_alive {K : Nat → Bool} {l : Loc} (hl : (h.kill K).m l ≠ .dead) : h.m l ≠ .dead ∧ (h.kill K).m l = h.m l ∧ ∀ id, l = .blk id → K id = false := by
  cases l with
  | blk id =>
    simp only [Hp.kill] at hl ⊢
    cases hk : K id with
    | true => rw [hk] at hl; simp at hl
    | false => rw [hk] at hl; exact ⟨hl, rfl, fun i hi => by cases hi; exact hk⟩
  | box t => exact ⟨hl, rfl, fun i hi => by cases hi⟩
theorem RH.kill (hr : RH σ h w) (K : Nat → Bool) : Ext σ h w (σ.kill h K) (h.kill K) w ∧ RH (σ.kill h K) (h.kill K) w := by
  have x : Ext σ h w (σ.kill h K) (h.kill K) w := {
    os := rfl
    tape := rfl
    output := rfl
    size := Nat.le_refl _
    keep := fun _ _ _ => rfl
    shape := fun b' arr' e' f' hb' => ⟨arr', f', hb', rfl⟩
    al := fun _ ha => ha
    same := fun _ _ _ _ _ => rfl
    grow := fun id L' _ hL => by
      have hl := alive_of_stamp hL
      rw [(Hp.kill_alive hl).2.1] at hL
      exact ⟨L', hL, Nat.le_refl _⟩
    frozen := fun _ hf => .inl hf
    fresh := fun b hf => by
      rcases hf with hf | ⟨id, _, ⟨cs, h1⟩, h2⟩
      · exact .inl hf
      · exact .inr (.inr ⟨.blk id, by rw [h1]; simp, h2⟩)
    new := fun l' b' hl' e' => .inr ⟨(Hp.kill_alive hl').1, e'⟩ }
  refine ⟨x, fun l' hl' => ?_, fun l1 l2 b' h1' h2' e1 e2 => hr.inj l1 l2 b' (Hp.kill_alive h1').1 (Hp.kill_alive h2').1 e1 e2, fun b hb => ?_, fun id hid => hr.al id (Hp.kill_alive hid).1⟩
  · obtain ⟨k1, k2, k3⟩ := Hp.kill_alive hl'
    obtain ⟨b', o, h5, h6, h7, h8⟩ := hr.obj l' k1
    rw [k2]
    refine ⟨b', o, h5, h6, obj_ext x hr h7, fun hF => ?_⟩
    rcases hF with hF | ⟨id, h9, ⟨cs, h10⟩, h11⟩
    · exact h8 hF
    · have := hr.inj l' (.blk id) b' k1 (by rw [h10]; simp) h5 h11
      rw [k3 id this] at h9
      cases h9
  · rcases hb with hF | ⟨id, h9, ⟨cs, h10⟩, h11⟩
    · exact hr.F b hF
    · obtain ⟨b', o, h5, h6, _⟩ := hr.obj (.blk id) (by rw [h10]; simp)
      rw [h11] at h5
      cases h5
      exact lt_of_heap h6

/-- What a value tells hangs on the blocks that there have been. -/
theorem V.moved (h1 : ∀ id, h.al id → σ'.ρ (.blk id) = σ.ρ (.blk id)) (hF : ∀ b, σ.F b → σ'.F b) (h3 : ∀ id, h.al id → h'.m (.blk id) = h.m (.blk id)) (h4 : ∀ id, h.al id → h'.al id) {c : AV} {u : Value} (hv : V σ h w c u) : V σ' h' w c u := by
  induction hv with
  | lit v => exact .lit v
  | ptr hs ha hr => exact .ptr (by rw [h3 _ ha]; exact hs) (h4 _ ha) (by rw [h1 _ ha]; exact hr)
  | ptrS hu ha hs => exact .ptrS hu (h4 _ ha) (fun L hL => hs L (by rw [← h3 _ ha]; exact hL))
  | rptr vs hsp hf h1 hc hv hz ih => exact .rptr vs hsp (hF _ hf) h1 hc ih hz
  | slc hs ha hr hb hlc hcap => exact .slc (by rw [h3 _ ha]; exact hs) (h4 _ ha) (by rw [h1 _ ha]; exact hr) hb hlc hcap
  | slcS hu ha hs => exact .slcS hu (h4 _ ha) (fun L hL => hs L (by rw [← h3 _ ha]; exact hL))
  | rslc vs hsp hf h1 hlc hc hv hz ih => exact .rslc vs hsp (hF _ hf) h1 hlc hc ih hz
  | rslc0 => exact .rslc0
  | z0 => exact .z0
  | map hs ha hr => exact .map (by rw [h3 _ ha]; exact hs) (h4 _ ha) (by rw [h1 _ ha]; exact hr)
  | mapS hu ha hs => exact .mapS hu (h4 _ ha) (fun L hL => hs L (by rw [← h3 _ ha]; exact hL))
  | fn hx hy h1 h2 ih1 ih2 => exact .fn hx hy ih1 ih2
  | yld hs ha hr => exact .yld (by rw [h3 _ ha]; exact hs) (h4 _ ha) (by rw [h1 _ ha]; exact hr)
  | yldS hu ha hs => exact .yldS hu (h4 _ ha) (fun L hL => hs L (by rw [← h3 _ ha]; exact hL))
  | ifc hv ih => exact .ifc ih
  | agg hl h1 hv ih => exact .agg hl h1 ih
  | tup hl hv ih => exact .tup hl ih
  | dead u => exact .dead u
end
end Go.Proofs.Ytmmabdpmeijgmaa.AM
