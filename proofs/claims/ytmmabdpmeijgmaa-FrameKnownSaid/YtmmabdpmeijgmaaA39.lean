/- Loops over maps: the keys come in any order. -/
import Derived.Test.YtmmabdpmeijgmaaA27
import Derived.Laws.IdiomRangeMap
namespace Go.Proofs.Ytmmabdpmeijgmaa.AM
open Go

abbrev Ent3 := AV × AV × Nat

section
variable {σ σ' σ2 : Sim} {h h' h2 : Hp} {w w' w2 : World} {P : Program} {E : Env} {O : Oracle} {tmps tmps' : List AV} {H H' H2 : List AObj} {A A2 : Nat → Prop} {a : Act} {s s' : FS} {ro : Option Nat} {lo : Nat}

/-- An object that is none of the abstract memory's is laid anew. -/
theorem LS.put {σ0 : Sim} {h0 : Hp} {w0 : World} (hl : LS σ0 h0 w0 σ h w tmps a) {r : Nat} (hn : ∀ l, h.m l ≠ .dead → σ.ρ l ≠ some r) (hF : ¬ σ.F r) (hlo : w0.heap.size ≤ r) {o : Obj}
    (hh : w'.heap = w.heap.setIfInBounds r o) (hos : w'.os = w.os) (htp : w'.tape = w.tape) (hou : w'.output = w.output) : LS σ0 h0 w0 σ h w' tmps a := by
  have other : ∀ b, b ≠ r → w'.heap[b]? = w.heap[b]? := fun b hb => by rw [hh, Array.getElem?_setIfInBounds_ne (Ne.symm hb)]
  have hsz : w'.heap.size = w.heap.size := by rw [hh]; simp
  have kF : ∀ b, σ.F b → w'.heap[b]? = w.heap[b]? := fun b hb => other b (by rintro rfl; exact hF hb)
  have kO : ∀ l b, h.m l ≠ .dead → σ.ρ l = some b → w'.heap[b]? = w.heap[b]? := fun l b hl hb => other b (by rintro rfl; exact hn l hl hb)
  refine ⟨⟨⟨fun l hl' => ?_, hl.rf.heap.inj, fun b hb => ?_, hl.rf.heap.al⟩, hl.rf.box, hl.rf.len, fun t c u hc hu => ?_⟩, ?_⟩
  · obtain ⟨b, o', h1, h2, h3, h4⟩ := hl.rf.heap.obj l hl'
    exact ⟨b, o', h1, (kO l b hl' h1).trans h2, obj_world kF kO h3, h4⟩
  · have := hl.rf.heap.F b hb; omega
  · exact VT_congr (fun _ => rfl) (fun hv => hv.world kF kO) (hl.rf.val t c u hc hu)
  · have x := hl.ext
    exact {
      os := hos.trans x.os
      tape := htp.trans x.tape
      output := hou.trans x.output
      size := by rw [hsz]; exact x.size
      keep := fun b hb hn' => (other b (by omega)).trans (x.keep b hb hn')
      shape := fun b arr e f hb => by
        obtain ⟨arr', f', h1, h2⟩ := x.shape b arr e f hb
        refine ⟨arr', f', (other b ?_).trans h1, h2⟩
        have := lt_of_heap hb
        omega
      al := x.al
      same := x.same
      grow := x.grow
      frozen := x.frozen
      fresh := x.fresh
      new := x.new }

/-- An iterator over a map of the abstract memory: which entries are left; 'at': the one that came last. -/
structure ItOk (σ : Sim) (s : FS) (w : World) (r ti id : Nat) (es : List Ent3) (clock : Nat) (lf : List Ent3) (last : Option Nat) : Prop where
  slot : s.tmps[ti]? = some (.lit (.pointer (some ⟨r, 0, none⟩)))
  obj : s.H[id]? = some (.map es clock)
  it : ∃ m since c0 seen, σ.ρ (.blk id) = some m ∧ w.heap[r]? = some (.mapIter (some m) since seen c0) ∧ (∀ e ∈ es, e.2.2 < since) ∧ since ≤ c0 ∧ since ≤ clock ∧ lf = es.filter (fun e => !seen.contains e.2.2) ∧ (∀ b, last = some b → seen.back? = some b ∧ c0 = clock)
  out : (∀ l, (hpS s).m l ≠ .dead → σ.ρ l ≠ some r) ∧ ¬ σ.F r

theorem hpS_blk {id : Nat} {o : AObj} (ho : s.H[id]? = some o) : (hpS s).m (.blk id) = o := by
  simp [hpS, hpA, mOf, ho]

theorem ItOk.lt {r ti id clock : Nat} {es lf : List Ent3} {at' : Option Nat} (hi : ItOk σ s w r ti id es clock lf at') : r < w.heap.size := by
  obtain ⟨m, since, c0, seen, h1, h2, _⟩ := hi.it
  exact lt_of_heap h2

theorem ItOk.keep {r ti id clock : Nat} {es lf : List Ent3} {at' : Option Nat} (hi : ItOk σ s w r ti id es clock lf at') (x : Ext σ (hpS s) w σ' (hpS s') w') (hr : RH σ (hpS s) w)
    (ht : s'.tmps[ti]? = s.tmps[ti]?) (ho : s'.H[id]? = s.H[id]?) : ItOk σ' s' w' r ti id es clock lf at' := by
  have hlt := hi.lt
  refine ⟨ht.trans hi.slot, ho.trans hi.obj, ?_, fun l hl hb => ?_, fun hF => ?_⟩
  · obtain ⟨m, since, c0, seen, h1, h2, h3⟩ := hi.it
    refine ⟨m, since, c0, seen, ?_, (x.keep r hlt fun l hl => hi.out.1 l hl).trans h2, h3⟩
    rw [x.same id 0 (hr.al id (by rw [hpS_blk hi.obj]; simp)) (by rw [hpS_blk hi.obj]; rfl) (by rw [hpS_blk (ho.trans hi.obj)]; rfl), h1]
  · rcases x.new l r hl hb with h1 | ⟨h1, h2⟩
    · omega
    · exact hi.out.1 l h1 h2
  · rcases x.fresh r hF with h1 | h1 | ⟨l, h1, h2⟩
    · exact hi.out.2 h1
    · omega
    · exact hi.out.1 l h1 h2

/-- The map, as it stands in the world. -/
theorem map_obj {id : Nat} {es : List Ent3} {clock m : Nat} (hr : RH σ (hpS s) w) (ho : s.H[id]? = some (.map es clock)) (hm : σ.ρ (.blk id) = some m) :
    ∃ arr, w.heap[m]? = some (.map arr clock) ∧ arr.size = es.length ∧ ∀ (i : Nat) e, es[i]? = some e → ∃ u, arr[i]? = some u ∧ V σ (hpS s) w e.1 u.key ∧ V σ (hpS s) w e.2.1 u.val ∧ u.born = e.2.2 := by
  obtain ⟨b, o, h1, h2, h3, _⟩ := hr.obj (.blk id) (by rw [hpS_blk ho]; simp)
  rw [hpS_blk ho] at h3
  rw [hm] at h1
  cases h1
  cases o <;> simp only [ObjRel] at h3
  rename_i arr c
  obtain ⟨rfl, h4, h5⟩ := h3
  exact ⟨arr, h2, h4, h5⟩

theorem es_of_arr {es : List Ent3} {arr : Array MapEntry} (hs : arr.size = es.length) (hv : ∀ (i : Nat) e, es[i]? = some e → ∃ u, arr[i]? = some u ∧ V σ h w e.1 u.key ∧ V σ h w e.2.1 u.val ∧ u.born = e.2.2) {u : MapEntry} (hu : u ∈ arr.toList) :
    ∃ e ∈ es, V σ h w e.1 u.key ∧ V σ h w e.2.1 u.val ∧ u.born = e.2.2 := by
  obtain ⟨i, hi, rfl⟩ := List.mem_iff_getElem.1 hu
  have hi' : i < es.length := by rw [← hs]; simpa using hi
  obtain ⟨u, h1, h2⟩ := hv i es[i] (List.getElem?_eq_getElem hi')
  have : arr.toList[i] = u := by
    rw [Array.getElem?_eq_some_iff] at h1
    obtain ⟨h3, h4⟩ := h1
    simpa using h4
  rw [this]
  exact ⟨_, List.getElem_mem hi', h2⟩

theorem arr_of_es {es : List Ent3} {arr : Array MapEntry} (hv : ∀ (i : Nat) e, es[i]? = some e → ∃ u, arr[i]? = some u ∧ V σ h w e.1 u.key ∧ V σ h w e.2.1 u.val ∧ u.born = e.2.2) {e : Ent3} (he : e ∈ es) :
    ∃ u ∈ arr.toList, V σ h w e.1 u.key ∧ V σ h w e.2.1 u.val ∧ u.born = e.2.2 := by
  obtain ⟨i, hi, rfl⟩ := List.mem_iff_getElem.1 he
  obtain ⟨u, h1, h2⟩ := hv i es[i] (List.getElem?_eq_getElem hi)
  exact ⟨u, by obtain ⟨h3, h4⟩ := Array.getElem?_eq_some_iff.1 h1; rw [← h4]; simp, h2⟩

/-- 'next', at any iterator over a map into which nothing has been laid since the loop began. -/
theorem run_next_any (w : World) (ty : TypeId) (r bm since c0 : Nat) (seen : Array Nat) (es : Array MapEntry) (clock : Nat) (hb : w.heap[bm]? = some (.map es clock)) (hr : w.heap[r]? = some (.mapIter (some bm) since seen c0)) (hold : ∀ x ∈ es.toList, x.born < since) (hsc : since ≤ c0) :
    ((leftOf es seen).size = 0 ∧ (Instr.next (.pointer (some ⟨r, 0, none⟩)) false ty).run P w = .ok (.tuple #[.bool false]) w) ∨
    ∃ e ∈ (leftOf es seen).toList, ∃ w1 : World, w1.heap = w.heap.setIfInBounds r (.mapIter (some bm) since (seen.push e.born) clock) ∧ w1.os = w.os ∧ w1.tape = w.tape ∧ w1.output = w.output ∧
      (Instr.next (.pointer (some ⟨r, 0, none⟩)) false ty).run P w = .ok (.tuple #[.bool true, e.key, e.val]) w1 := by
  simp only [Instr.next, getObj, Sem.run_bind, Sem.run, hr, hb, Result.andThen, next_test_false seen es since c0 hold hsc, Bool.false_eq_true, if_false]
  unfold leftOf
  have hmem : ∀ x ∈ (Array.filter (fun e => !seen.contains e.born) es).toList, x.born < since := fun x hx => hold x (by simp at hx ⊢; exact hx.1)
  generalize Array.filter (fun e => !seen.contains e.born) es = L at hmem ⊢
  have e1 : L.filter (fun x => decide (x.born < since)) = L := Array.filter_eq_self.2 (fun x hx => by simpa using hmem x (by simpa using hx))
  have e2 : L.filter (fun x => decide (x.born ≥ since)) = #[] := by
    rw [Array.filter_eq_empty_iff]
    intro x hx
    have := hmem x (by simpa using hx)
    simp
    omega
  simp only [e1, e2, Array.append_empty]
  by_cases h0 : L.size = 0
  · left
    have : L = #[] := Array.eq_empty_of_size_eq_zero h0
    subst this
    refine ⟨rfl, ?_⟩
    simp [choose, Sem.run, Question.forced]
  · right
    have hne : L.isEmpty = false := by simp [Array.isEmpty, h0]
    simp only [hne, Bool.false_eq_true, if_false, Array.empty_append, Array.size_map]
    have hch : ∃ (j : Nat) (w1 : World), j < L.size ∧ (w1 = w ∨ w1 = w.drew) ∧ (choose (Question.mapNext L.size)).run P w = .ok j w1 := by
      by_cases hf : L.size ≤ 1
      · exact ⟨0, w, by omega, .inl rfl, by simp [choose, Sem.run, Question.forced, hf]⟩
      · exact ⟨_, w.drew, Nat.mod_lt _ (by omega), .inr rfl, by
          simp only [choose, Sem.run, Question.forced, decide_eq_true_eq, hf, if_false, Question.cut]
          rfl⟩
    obtain ⟨j, w1, hj, hal, hrun⟩ := hch
    have hh : w1.heap = w.heap := by rcases hal with rfl | rfl <;> rfl
    have hset : ∀ (o' : Obj), (setObj r o').run P w1 = .ok () { w1 with heap := w1.heap.setIfInBounds r o' } := fun o' => by
      simp only [setObj, Sem.run]
      rw [hh, hr]
    refine ⟨L[j], by simp, { w1 with heap := w1.heap.setIfInBounds r (.mapIter (some bm) since (seen.push L[j].born) clock) }, by rw [hh], by rcases hal with rfl | rfl <;> rfl, by rcases hal with rfl | rfl <;> rfl, by rcases hal with rfl | rfl <;> rfl, ?_⟩
    simp only [hrun, Array.getElem?_map, Array.getElem?_eq_getElem hj, Option.map_some, Sem.run_bind, hset, Result.andThen]
    rfl

/-- 'entry': the entry that came last. -/
theorem run_entry_any (w : World) (r bm since : Nat) (seen : Array Nat) (es : Array MapEntry) (clock : Nat) (e : MapEntry) (hb : w.heap[bm]? = some (.map es clock)) (hr : w.heap[r]? = some (.mapIter (some bm) since seen clock)) (hs : seen.back? = some e.born)
    (he : e ∈ es.toList) (hn : (es.toList.map (·.born)).Nodup) : (Instr.entry (.pointer (some ⟨r, 0, none⟩))).run P w = .ok (.tuple #[e.key, e.val]) w := by
  have hf : es.find? (·.born == e.born) = some e := by rw [← Array.find?_toList]; exact find_born e es.toList hn he
  simp only [Instr.entry, getObj, Sem.run_bind, Sem.run, hr, hb, Result.andThen, hs, bne_self_eq_false, Bool.false_eq_true, if_false, hf]
  rfl

theorem born_nodup {es : List Ent3} {arr : Array MapEntry} (hs : arr.size = es.length) (hv : ∀ (i : Nat) e, es[i]? = some e → ∃ u, arr[i]? = some u ∧ V σ h w e.1 u.key ∧ V σ h w e.2.1 u.val ∧ u.born = e.2.2) (hn : (es.map (·.2.2)).Nodup) :
    (arr.toList.map (·.born)).Nodup := by
  have : arr.toList.map (·.born) = es.map (·.2.2) := by
    apply List.ext_getElem?
    intro i
    rw [List.getElem?_map, List.getElem?_map]
    cases he : es[i]? with
    | none =>
      have : arr.toList[i]? = none := by
        rw [List.getElem?_eq_none_iff] at he ⊢
        simpa [hs] using he
      rw [this]; rfl
    | some e =>
      obtain ⟨u, h1, _, _, h4⟩ := hv i e he
      have : arr.toList[i]? = some u := by simpa using h1
      rw [this]
      simp [h4]
  rw [this]
  exact hn

/-- A slot is written: all that is known of an iterator stays. -/
theorem slot_it {σ0 : Sim} {h0 : Hp} {w0 : World} {r ti id clock d : Nat} {es lf : List Ent3} {at' : Option Nat} {v : AV} {u : Value} (hl : LS σ0 h0 w0 σ (hpS s) w s.tmps a) (hD : s.D = []) (had : a.defers = []) (hlo : lo ≤ w.heap.size)
    (hi : ItOk σ s w r ti id es clock lf at') (hd : d ≠ ti) (hv : VA σ (hpS s) w v u) :
    RS lo σ ⟨setD s.tmps (some d) v, s.H, s.D⟩ w (a.put (some d) u) ∧ Ext σ0 h0 w0 σ (hpS ⟨setD s.tmps (some d) v, s.H, s.D⟩) w ∧ ItOk σ ⟨setD s.tmps (some d) v, s.H, s.D⟩ w r ti id es clock lf at' := by
  obtain ⟨z1, z2⟩ := slot_sound (d := some d) (v := v) (r := u) hl.rf rfl (Ext.refl _ _ _) hl.rf.heap hv fun _ => rfl
  refine ⟨⟨z1, ?_⟩, hl.ext.trans z2, hi.keep z2 hl.rf.heap ?_ rfl⟩
  · rw [put_defers, had]
    show DRs lo σ _ w s.D []
    rw [hD]
    exact .nil hlo
  · show (setD s.tmps (some d) v)[ti]? = _
    simp [setD, hd]

theorem execOp_next {ρ : Operand → Value} {o : Oper} {x : Operand} (ho : o.op = .next x false) {v : Value} {w1 : World} (h : (Instr.next (ρ x) false o.type).run P w = .ok v w1) : (execOp ρ o).run P w = .ok (.value v) w1 := by
  unfold execOp
  rw [ho]
  simp only [Sem.run_bind, h, Result.andThen]
  rfl

theorem execOp_entry {ρ : Operand → Value} {o : Oper} {x : Operand} (ho : o.op = .entry x) {v : Value} {w1 : World} (h : (Instr.entry (ρ x)).run P w = .ok v w1) : (execOp ρ o).run P w = .ok (.value v) w1 := by
  unfold execOp
  rw [ho]
  simp only [Sem.run_bind, h, Result.andThen]
  rfl

theorem eval_slot (hr : RF σ h w tmps a) {t : Nat} {v : Value} (ht : tmps[t]? = some (.lit v)) : a.eval (.tmp t) = v := by
  have h0 : evT tmps (.tmp t) = some (.lit v) := by simp [evT, ht]
  have := evT_sound hr h0
  generalize a.eval (.tmp t) = u at this
  cases this
  rfl

theorem next_wp {σ0 : Sim} {h0 : Hp} {w0 : World} {r ti id clock d : Nat} {es lf : List Ent3} {at' : Option Nat} {o : Oper} (ho : o.op = .next (.tmp ti) false) (hdst : o.dst = some d) (hd : d ≠ ti)
    (hr : RS lo σ s w a) (hx : Ext σ0 h0 w0 σ (hpS s) w) (hlo : lo ≤ w0.heap.size) (hr0 : w0.heap.size ≤ r) (hD : s.D = []) (had : a.defers = []) (hi : ItOk σ s w r ti id es clock lf at') {next : Act → World → Prop} {Q : Exit → Act → World → Prop}
    (h1 : lf = [] → ∀ a', a'.defers = [] → RS lo σ ⟨setD s.tmps (some d) (.tup [.lit (.bool false)]), s.H, s.D⟩ w a' → Ext σ0 h0 w0 σ (hpS ⟨setD s.tmps (some d) (.tup [.lit (.bool false)]), s.H, s.D⟩) w → next a' w)
    (h2 : ∀ e ∈ lf, ∀ a' w', a'.defers = [] → RS lo σ ⟨setD s.tmps (some d) (.tup [.lit (.bool true), e.1, e.2.1]), s.H, s.D⟩ w' a' → Ext σ0 h0 w0 σ (hpS ⟨setD s.tmps (some d) (.tup [.lit (.bool true), e.1, e.2.1]), s.H, s.D⟩) w' →
      ItOk σ ⟨setD s.tmps (some d) (.tup [.lit (.bool true), e.1, e.2.1]), s.H, s.D⟩ w' r ti id es clock (lf.filter fun x => x.2.2 != e.2.2) (some e.2.2) → next a' w') :
    o.wpIn (fen P ro) 0 P a w next Q := by
  have hls : LS σ0 h0 w0 σ (hpS s) w s.tmps a := ⟨hr.rf, hx⟩
  have hsz := hx.size
  obtain ⟨m, since, c0, seen, hm, hw, hold, hsc, hscl, hlf, hat⟩ := hi.it
  obtain ⟨arr, ha1, ha2, ha3⟩ := map_obj hr.rf.heap hi.obj hm
  have hev := eval_slot hr.rf hi.slot
  have hold' : ∀ x ∈ arr.toList, x.born < since := fun x hx => by
    obtain ⟨e, he, _, _, h4⟩ := es_of_arr ha2 ha3 hx
    rw [h4]; exact hold e he
  refine ⟨fun f hf => ?_, ?_⟩
  · rw [about_other (by rw [ho]; simp)] at hf; cases hf
  · rw [Oper.semAt_eq _ _ _ (by rw [ho]; simp)]
    rcases run_next_any (P := P) w o.type r m since c0 seen arr clock ha1 hw hold' hsc with ⟨h3, h4⟩ | ⟨u, hu, w1, k1, k2, k3, k4, k5⟩
    · rw [execOp_next ho (by rw [hev]; exact h4)]
      show next (a.put o.dst _) w
      rw [hdst]
      have hnil : lf = [] := by
        rw [hlf, List.filter_eq_nil_iff]
        intro e he hc
        obtain ⟨u, hu, _, _, h7⟩ := arr_of_es ha3 he
        have : u ∈ (leftOf arr seen).toList := by
          unfold leftOf
          simp only [Array.toList_filter, List.mem_filter]
          exact ⟨hu, by rw [h7]; exact hc⟩
        have h8 : (leftOf arr seen) = #[] := Array.eq_empty_of_size_eq_zero h3
        rw [h8] at this
        cases this
      obtain ⟨z1, z2, _⟩ := slot_it (lo := lo) (d := d) (v := .tup [.lit (.bool false)]) (u := .tuple #[.bool false]) hls hD had (by omega) hi hd (V.tup rfl fun i c u hi hu => by
        match i with
        | 0 => simp at hi hu; subst hi hu; exact .lit _
        | i + 1 => simp at hi)
      exact h1 hnil _ (by rw [put_defers]; exact had) z1 z2
    · rw [execOp_next ho (by rw [hev]; exact k5)]
      show next (a.put o.dst _) w1
      rw [hdst]
      have hu' : u ∈ arr.toList ∧ (!seen.contains u.born) = true := by
        unfold leftOf at hu
        simpa only [Array.toList_filter, List.mem_filter] using hu
      obtain ⟨e, he, v1, v2, hb⟩ := es_of_arr ha2 ha3 hu'.1
      have hel : e ∈ lf := by rw [hlf, List.mem_filter]; exact ⟨he, by rw [← hb]; exact hu'.2⟩
      have hlt := hi.lt
      have kF : ∀ b, σ.F b → w1.heap[b]? = w.heap[b]? := fun b hF => by rw [k1, Array.getElem?_setIfInBounds_ne]; rintro rfl; exact hi.out.2 hF
      have kO : ∀ l b, (hpS s).m l ≠ .dead → σ.ρ l = some b → w1.heap[b]? = w.heap[b]? := fun l b hl hb' => by rw [k1, Array.getElem?_setIfInBounds_ne]; rintro rfl; exact hi.out.1 l hl hb'
      have hls1 : LS σ0 h0 w0 σ (hpS s) w1 s.tmps a := hls.put hi.out.1 hi.out.2 hr0 k1 k2 k3 k4
      have hi1 : ItOk σ s w1 r ti id es clock (lf.filter fun x => x.2.2 != e.2.2) (some e.2.2) := by
        refine ⟨hi.slot, hi.obj, ⟨m, since, clock, seen.push u.born, hm, ?_, hold, hscl, hscl, ?_, ?_⟩, hi.out⟩
        · rw [k1, Array.getElem?_setIfInBounds_self_of_lt hlt]
        · rw [hlf, List.filter_filter]
          congr 1
          funext x
          rw [hb]
          by_cases hxx : x.2.2 = e.2.2 <;> simp [hxx]
        · rintro b hb'
          cases hb'
          exact ⟨by simp [hb], rfl⟩
      obtain ⟨z1, z2, z3⟩ := slot_it (lo := lo) (d := d) (v := .tup [.lit (.bool true), e.1, e.2.1]) (u := .tuple #[.bool true, u.key, u.val]) hls1 hD had (by rw [k1]; simp; omega) hi1 hd (V.tup rfl fun i c u' hi hu => by
        match i with
        | 0 => simp at hi hu; subst hi hu; exact .lit _
        | 1 => simp at hi hu; subst hi hu; exact v1.world kF kO
        | 2 => simp at hi hu; subst hi hu; exact v2.world kF kO
        | i + 3 => simp at hi)
      exact h2 e hel _ _ (by rw [put_defers]; exact had) z1 z2 z3

theorem entry_wp {σ0 : Sim} {h0 : Hp} {w0 : World} {r ti id clock d : Nat} {es lf : List Ent3} {e : Ent3} {o : Oper} (ho : o.op = .entry (.tmp ti)) (hdst : o.dst = some d) (hd : d ≠ ti)
    (hr : RS lo σ s w a) (hx : Ext σ0 h0 w0 σ (hpS s) w) (hlo : lo ≤ w0.heap.size) (hD : s.D = []) (had : a.defers = []) (hi : ItOk σ s w r ti id es clock lf (some e.2.2)) (he : e ∈ es) (hn : (es.map (·.2.2)).Nodup) {next : Act → World → Prop} {Q : Exit → Act → World → Prop}
    (h2 : ∀ a', a'.defers = [] → RS lo σ ⟨setD s.tmps (some d) (.tup [e.1, e.2.1]), s.H, s.D⟩ w a' → Ext σ0 h0 w0 σ (hpS ⟨setD s.tmps (some d) (.tup [e.1, e.2.1]), s.H, s.D⟩) w →
      ItOk σ ⟨setD s.tmps (some d) (.tup [e.1, e.2.1]), s.H, s.D⟩ w r ti id es clock lf (some e.2.2) → next a' w) :
    o.wpIn (fen P ro) 0 P a w next Q := by
  have hsz := hx.size
  obtain ⟨m, since, c0, seen, hm, hw, hold, hsc, hscl, hlf, hat⟩ := hi.it
  obtain ⟨arr, ha1, ha2, ha3⟩ := map_obj hr.rf.heap hi.obj hm
  have hev := eval_slot hr.rf hi.slot
  obtain ⟨u, hu, v1, v2, hb⟩ := arr_of_es ha3 he
  obtain ⟨hs1, rfl⟩ := hat _ rfl
  refine ⟨fun f hf => ?_, ?_⟩
  · rw [about_other (by rw [ho]; simp)] at hf; cases hf
  · rw [Oper.semAt_eq _ _ _ (by rw [ho]; simp)]
    rw [execOp_entry ho (by rw [hev]; exact run_entry_any (P := P) w r m since seen arr c0 u ha1 hw (by rw [hs1, hb]) hu (born_nodup ha2 ha3 hn))]
    show next (a.put o.dst _) w
    rw [hdst]
    obtain ⟨z1, z2, z3⟩ := slot_it (lo := lo) (d := d) (v := .tup [e.1, e.2.1]) (u := .tuple #[u.key, u.val]) ⟨hr.rf, hx⟩ hD had (by omega) hi hd (V.tup rfl fun i c u' hi hu => by
      match i with
      | 0 => simp at hi hu; subst hi hu; exact v1
      | 1 => simp at hi hu; subst hi hu; exact v2
      | i + 2 => simp at hi)
    exact h2 _ (by rw [put_defers]; exact had) z1 z2 z3

theorem drs_nil {y : List Deferred} (hd : DRs lo σ h w [] y) : y = [] := by cases hd; rfl

/-- A region of which the first operation has been done. -/
theorem mtail_wp (hE : EnvOk P E) (hO : OracleOk P O) {fn : FuncId} {rd : Bool} (hrd : ro.isSome = rd) {ops : Array Oper} {l : List Nat} {s1 : FS} (he : opsRun O E fn rd ops l s = some (.normal, s1)) (hr : RS lo σ s w a) {σ0 : Sim} {h0 : Hp} {w0 : World} (hx : Ext σ0 h0 w0 σ (hpS s) w)
    {r ti id clock : Nat} {es lf : List Ent3} {at' : Option Nat} (hi : ItOk σ s w r ti id es clock lf at') (hD : s1.D = []) (ht : s1.tmps[ti]? = s.tmps[ti]?) (ho : s1.H[id]? = s.H[id]?) {Q : Exit → Act → World → Prop}
    (hq : ∀ σ' a' w', a'.defers = [] → RS lo σ' s1 w' a' → Ext σ0 h0 w0 σ' (hpS s1) w' → ItOk σ' s1 w' r ti id es clock lf at' → Q .normal a' w') :
    wpOpsIn (fen P ro) 0 P ops Q l a w := by
  refine ops_mono (fun e a1 w1 hc => ?_) _ _ _ (opsRun_wp hE hO hrd l he hr)
  obtain ⟨rfl, σ1, hr1, x1⟩ := hc.normal
  refine hq σ1 a1 w1 ?_ hr1 (hx.trans x1) (hi.keep x1 hr.rf.heap ht ho)
  have := hr1.d
  rw [hD] at this
  exact drs_nil this

theorem exec_wp (hE : EnvOk P E) (hO : OracleOk P O) (hm : P.follows .mixedOrders = true) {fn : FuncId} {rd : Bool} (hrd : ro.isSome = rd) {c : Code} {s1 : FS} {ex : Ex} (he : execC O E fn rd c s = some (ex, s1)) (hr : RS lo σ s w a) {σ0 : Sim} {h0 : Hp} {w0 : World} (hx : Ext σ0 h0 w0 σ (hpS s) w)
    {r ti id clock : Nat} {es lf : List Ent3} {at' : Option Nat} (hi : ItOk σ s w r ti id es clock lf at') (hD : s1.D = []) (ht : s1.tmps[ti]? = s.tmps[ti]?) (ho : s1.H[id]? = s.H[id]?) {Q : Exit → Act → World → Prop}
    (hq : ∀ σ' e a' w', ExR σ' (hpS s1) w' ex e → a'.defers = [] → RS lo σ' s1 w' a' → Ext σ0 h0 w0 σ' (hpS s1) w' → ItOk σ' s1 w' r ti id es clock lf at' → Q e a' w') :
    c.wpIn (fen P ro) 0 P Q a w := by
  refine wpIn_mono (execC_wp hE hO hm hrd c he hr) fun e a1 w1 hc => ?_
  obtain ⟨σ1, he1, hr1, x1⟩ := hc
  refine hq σ1 e a1 w1 he1 ?_ hr1 (hx.trans x1) (hi.keep x1 hr.rf.heap ht ho)
  have := hr1.d
  rw [hD] at this
  exact drs_nil this

/-- The body of a loop over a map. -/
structure MapBody (b : Code) (ti : Nat) where
  i1 : Nat
  i2 : Nat
  x : Nat
  y : Nat
  d1 : Nat
  d2 : Nat
  c : Operand
  ops1 : Array Oper
  ops2 : Array Oper
  l1 : List Nat
  l2 : List Nat
  rest : Code
  o1 : Oper
  o2 : Oper
  is : b = .seq (.region i1 ops1 false) (.seq (.cond c .skip (.exit x)) (.block y (.seq (.region i2 ops2 false) rest)))
  r1 : List.range ops1.size = 0 :: l1
  r2 : List.range ops2.size = 0 :: l2
  g1 : ops1[0]? = some o1
  g2 : ops2[0]? = some o2
  p1 : o1.op = .next (.tmp ti) false
  p2 : o2.op = .entry (.tmp ti)
  t1 : o1.dst = some d1
  t2 : o2.dst = some d2
  n1 : d1 ≠ ti
  n2 : d2 ≠ ti
  u1 : o1.guard = none
  u2 : o2.guard = none

/-- What stays: the iterator's slot, the map, no deferred call. -/
structure Same (ti id : Nat) (s s' : FS) : Prop where
  d : s'.D = []
  t : s'.tmps[ti]? = s.tmps[ti]?
  o : s'.H[id]? = s.H[id]?

/-- A round of it, at an entry. -/
def MRound (O : Oracle) (E : Env) (fn : FuncId) (rd : Bool) {b : Code} {ti : Nat} (m : MapBody b ti) (id : Nat) (e : Ent3) (s : FS) (ex : Ex) (s3 : FS) : Prop :=
  ∃ s1 s2, opsRun O E fn rd m.ops1 m.l1 ⟨setD s.tmps (some m.d1) (.tup [.lit (.bool true), e.1, e.2.1]), s.H, s.D⟩ = some (.normal, s1) ∧ evT s1.tmps m.c = some (.lit (.bool true)) ∧
    opsRun O E fn rd m.ops2 m.l2 ⟨setD s1.tmps (some m.d2) (.tup [e.1, e.2.1]), s1.H, s1.D⟩ = some (.normal, s2) ∧ execC O E fn rd m.rest s2 = some (ex, s3) ∧ Same ti id s s1 ∧ Same ti id s s2 ∧ Same ti id s s3

/-- The last one. -/
def MLast (O : Oracle) (E : Env) (fn : FuncId) (rd : Bool) {b : Code} {ti : Nat} (m : MapBody b ti) (s s1 : FS) : Prop :=
  opsRun O E fn rd m.ops1 m.l1 ⟨setD s.tmps (some m.d1) (.tup [.lit (.bool false)]), s.H, s.D⟩ = some (.normal, s1) ∧ evT s1.tmps m.c = some (.lit (.bool false))

theorem setD_get {t : List AV} {d ti : Nat} {v : AV} (hd : d ≠ ti) : (setD t (some d) v)[ti]? = t[ti]? := by simp [setD, hd]

theorem mbody_wp (hE : EnvOk P E) (hO : OracleOk P O) (hm : P.follows .mixedOrders = true) {fn : FuncId} {rd : Bool} (hrd : ro.isSome = rd) {b : Code} {ti id : Nat} (m : MapBody b ti) {σ0 : Sim} {h0 : Hp} {w0 : World} {r clock : Nat} {es lf : List Ent3} {at' : Option Nat}
    (hr : RS lo σ s w a) (hx : Ext σ0 h0 w0 σ (hpS s) w) (hlo : lo ≤ w0.heap.size) (hr0 : w0.heap.size ≤ r) (hD : s.D = []) (had : a.defers = []) (hi : ItOk σ s w r ti id es clock lf at') (hes : ∀ e ∈ lf, e ∈ es) (hn : (es.map (·.2.2)).Nodup)
    {Q : Exit → Act → World → Prop}
    (hlast : lf = [] → ∃ s1, MLast O E fn rd m s s1 ∧ ∀ σ' a' w', RS lo σ' s1 w' a' → Ext σ0 h0 w0 σ' (hpS s1) w' → Q (.exit m.x) a' w')
    (hround : ∀ e ∈ lf, ∃ s3, MRound O E fn rd m id e s .normal s3 ∧ ∀ σ' a' w', a'.defers = [] → RS lo σ' s3 w' a' → Ext σ0 h0 w0 σ' (hpS s3) w' → ItOk σ' s3 w' r ti id es clock (lf.filter fun x => x.2.2 != e.2.2) (some e.2.2) → Q .normal a' w') :
    b.wpIn (fen P ro) 0 P Q a w := by
  rw [m.is]
  refine wpIn_seq (wpIn_region ?_)
  rw [m.r1, wpOpsIn_cons]
  unfold wpOpIn
  rw [m.g1]
  simp only []
  rw [if_pos (by unfold Region.wanted; rw [m.u1])]
  refine next_wp m.p1 m.t1 m.n1 hr hx hlo hr0 hD had hi (fun hnil a1 ha1 hr1 hx1 => ?_) fun e he a1 w1 ha1 hr1 hx1 hi1 => ?_
  · obtain ⟨s1, ⟨q1, q2⟩, hq⟩ := hlast hnil
    refine ops_mono (fun e a2 w2 hc => ?_) _ _ _ (opsRun_wp hE hO hrd m.l1 q1 hr1)
    obtain ⟨rfl, σ2, hr2, x2⟩ := hc.normal
    refine wpIn_seq ?_
    have h0 := evT_sound hr2.rf q2
    have hcv : a2.eval m.c = .bool false := by generalize a2.eval m.c = u at h0; cases h0; rfl
    exact wpIn_cond_false hcv (wpIn_exit (hq σ2 a2 w2 hr2 (hx1.trans x2)))
  · obtain ⟨s3, ⟨s1, s2, q1, q2, q3, q4, e1, e2, e3⟩, hq⟩ := hround e he
    refine mtail_wp hE hO hrd q1 hr1 hx1 hi1 e1.d (e1.t.trans (setD_get m.n1).symm) e1.o fun σ2 a2 w2 ha2 hr2 hx2 hi2 => ?_
    refine wpIn_seq ?_
    have h0 := evT_sound hr2.rf q2
    have hcv : a2.eval m.c = .bool true := by generalize a2.eval m.c = u at h0; cases h0; rfl
    refine wpIn_cond_true hcv (wpIn_skip ?_)
    refine wpIn_block (wpIn_seq (wpIn_region ?_))
    rw [m.r2, wpOpsIn_cons]
    unfold wpOpIn
    rw [m.g2]
    simp only []
    rw [if_pos (by unfold Region.wanted; rw [m.u2])]
    refine entry_wp m.p2 m.t2 m.n2 hr2 hx2 hlo e1.d ha2 hi2 (hes e he) hn fun a3 ha3 hr3 hx3 hi3 => ?_
    refine mtail_wp hE hO hrd q3 hr3 hx3 hi3 e2.d ((e2.t.trans e1.t.symm).trans (setD_get m.n2).symm) (e2.o.trans e1.o.symm) fun σ4 a4 w4 ha4 hr4 hx4 hi4 => ?_
    refine exec_wp hE hO hm hrd q4 hr4 hx4 hi4 e3.d (e3.t.trans e2.t.symm) (e3.o.trans e2.o.symm) fun σ5 e5 a5 w5 he5 ha5 hr5 hx5 hi5 => ?_
    cases e5 <;> simp only [ExR] at he5
    exact hq σ5 a5 w5 ha5 hr5 hx5 hi5

/-- The rounds, in any order; 'R': what stands behind them. -/
inductive Rnds (O : Oracle) (E : Env) (fn : FuncId) (rd : Bool) {b : Code} {ti : Nat} (m : MapBody b ti) (id : Nat) (R : FS → Prop) : List Ent3 → FS → Prop
  | done {s s1 : FS} (h : MLast O E fn rd m s s1) (hR : R s1) : Rnds O E fn rd m id R [] s
  | step {e0 : Ent3} {lf : List Ent3} {s : FS} (nxt : Ent3 → FS) (h : ∀ e ∈ e0 :: lf, MRound O E fn rd m id e s .normal (nxt e)) (h2 : ∀ e ∈ e0 :: lf, Rnds O E fn rd m id R ((e0 :: lf).filter fun x => x.2.2 != e.2.2) (nxt e)) : Rnds O E fn rd m id R (e0 :: lf) s

theorem filter_less {lf : List Ent3} {e : Ent3} (he : e ∈ lf) : (lf.filter fun x => x.2.2 != e.2.2).length < lf.length := by
  refine List.length_filter_lt_length_iff_exists.2 ⟨e, he, ?_⟩
  simp

/-- Behind the loop. -/
def MPost (lo : Nat) (σ0 : Sim) (h0 : Hp) (w0 : World) (R : FS → Prop) (a' : Act) (w' : World) : Prop := ∃ σ' s1, R s1 ∧ RS lo σ' s1 w' a' ∧ Ext σ0 h0 w0 σ' (hpS s1) w'

theorem mloop_good (hE : EnvOk P E) (hO : OracleOk P O) (hm : P.follows .mixedOrders = true) {fn : FuncId} {rd : Bool} (hrd : ro.isSome = rd) {b : Code} {ti id : Nat} (m : MapBody b ti) {R : FS → Prop} {σ0 : Sim} {h0 : Hp} {w0 : World} {r clock : Nat} {es : List Ent3}
    (hlo : lo ≤ w0.heap.size) (hr0 : w0.heap.size ≤ r) (hn : (es.map (·.2.2)).Nodup) : ∀ (n : Nat) {lf : List Ent3} {s : FS} {σ : Sim} {w : World} {a : Act} {at' : Option Nat}, lf.length = n → Rnds O E fn rd m id R lf s →
    RS lo σ s w a → Ext σ0 h0 w0 σ (hpS s) w → s.D = [] → a.defers = [] → ItOk σ s w r ti id es clock lf at' → (∀ e ∈ lf, e ∈ es) →
    ∀ (bb : Frame) (k : List Item) (cs : List Frame), bb.roundOf = ro → (fen P ro).fn bb.fn → (fen P ro).room (cs.length + 1 + 0) →
    ∃ a' w', MPost lo σ0 h0 w0 R a' w' ∧ ArrivesIn (Machine.fenced P (fen P ro)) P (lone (bb.atR a (.code b :: .inLoop b :: k)) cs w) bb k cs (.exit m.x) a' w' := by
  intro n
  induction n using Nat.strongRecOn with
  | ind n ih =>
    intro lf s σ w a at' hlen hR hr hx hD had hi hes bb k cs hro hb hroom
    have hbody : b.wpIn (fen P ro) 0 P (fun e a1 w1 => (e = .exit m.x ∧ MPost lo σ0 h0 w0 R a1 w1) ∨
        (e = .normal ∧ ∃ e0 ∈ lf, ∃ σ' s3, Rnds O E fn rd m id R (lf.filter fun x => x.2.2 != e0.2.2) s3 ∧ s3.D = [] ∧ a1.defers = [] ∧ RS lo σ' s3 w1 a1 ∧ Ext σ0 h0 w0 σ' (hpS s3) w1 ∧ ItOk σ' s3 w1 r ti id es clock (lf.filter fun x => x.2.2 != e0.2.2) (some e0.2.2))) a w := by
      refine mbody_wp (fn := fn) hE hO hm hrd m hr hx hlo hr0 hD had hi hes hn (fun hnil => ?_) fun e he => ?_
      · subst hnil
        cases hR with
        | done h1 h2 => exact ⟨_, h1, fun σ' a' w' k1 k2 => .inl ⟨rfl, σ', _, h2, k1, k2⟩⟩
      · cases hR with
        | done => cases he
        | step nxt h1 h4 =>
          have h2 := h1 e he
          have h3 := h4 e he
          refine ⟨nxt e, h2, fun σ' a' w' k1 k2 k3 k4 => .inr ⟨rfl, e, he, σ', nxt e, h3, ?_, k1, k2, k3, k4⟩⟩
          obtain ⟨_, _, _, _, _, _, _, _, q⟩ := h2
          exact q.d
    obtain ⟨e, a1, w1, hq, harr⟩ := hbody bb (.inLoop b :: k) cs hro hb hroom
    rcases hq with ⟨rfl, hq⟩ | ⟨rfl, e0, he0, σ', s3, q1, q2, q3, q4, q5, q6⟩
    · refine ⟨a1, w1, hq, .pass (x := .inLoop b) rfl (fun _ _ => .inl ?_) harr⟩
      intro h; cases h
    · obtain ⟨a2, w2, hq2, harr2⟩ := ih _ (by rw [← hlen]; exact filter_less he0) rfl q1 q4 q5 q2 q3 q6 (fun e he => hes e (List.mem_filter.1 he).1) bb k cs hro hb hroom
      exact ⟨a2, w2, hq2, .of_steps (StepsIn.trans harr (.one (fenced_calm (n := 0) hb hroom rfl) stepR_inLoop)) harr2⟩

theorem alive_set {d : Nat} {v : AV} {l : Loc} (hv : ∀ cs, v ≠ .lbox cs) (hl : (hpS ⟨setD s.tmps (some d) v, s.H, s.D⟩).m l ≠ .dead) : (hpS s).m l ≠ .dead := by
  intro hc
  apply hl
  cases l with
  | blk i => exact hc
  | box i =>
    have hc : boxOf s.tmps i = .dead := hc
    show boxOf (s.tmps.set d v) i = .dead
    rw [boxOf_set s.tmps d v hv i]
    split
    · split
      · rfl
      · exact hc
    · exact hc

theorem execOp_range {ρ : Operand → Value} {o : Oper} {t : TypeId} {x : Operand} (ho : o.op = .range t x) {v : Value} {w1 : World} (h : (Instr.range t (ρ x)).run P w = .ok v w1) : (execOp ρ o).run P w = .ok (.value v) w1 := by
  unfold execOp
  rw [ho]
  simp only [Sem.run_bind, h, Result.andThen]
  rfl

/-- A loop over a map of the abstract memory, from the region on in which it is ranged over (its second operation). -/
theorem mfor_wp (hE : EnvOk P E) (hO : OracleOk P O) (hm : P.follows .mixedOrders = true) {fn : FuncId} {rd : Bool} (hrd : ro.isSome = rd) {b : Code} {ti id : Nat} (m : MapBody b ti) {R : FS → Prop} {clock : Nat} {es : List Ent3} {i0 : Nat} {ops : Array Oper} {oa ob : Oper} {s1 : FS} {t kt et : TypeId} {x : Operand}
    (hl : List.range ops.size = [0, 1]) (ha : ops[0]? = some oa) (hb : ops[1]? = some ob) (ga : oa.guard = none) (gb : ob.guard = none) (hop : ob.op = .range t x) (hdst : ob.dst = some ti) (ht : P.underlying t = some (.map kt et))
    (h1 : opRun O E fn rd oa s = some (.next s1)) (hD : s1.D = []) (hev : evT s1.tmps x = some (.map id)) (hH : s1.H[id]? = some (.map es clock)) (hold : ∀ e ∈ es, e.2.2 < clock) (hn : (es.map (·.2.2)).Nodup)
    (hR : ∀ r : Nat, Rnds O E fn rd m id R es ⟨setD s1.tmps (some ti) (.lit (.pointer (some ⟨r, 0, none⟩))), s1.H, s1.D⟩) (hlt : ti < s1.tmps.length) (hr : RS lo σ s w a) :
    (Code.seq (.region i0 ops false) (.block m.x (.loop b))).wpIn (fen P ro) 0 P (fun e a' w' => e = .normal ∧ MPost lo σ (hpS s) w R a' w') a w := by
  refine wpIn_seq (wpIn_region ?_)
  rw [hl, wpOpsIn_cons]
  unfold wpOpIn
  rw [ha]
  simp only []
  rw [if_pos (by unfold Region.wanted; rw [ga])]
  refine opRun_wp hE hO hrd hr h1 fun σ1 a1 w1 hr1 x1 => ?_
  rw [wpOpsIn_cons]
  unfold wpOpIn
  rw [hb]
  simp only []
  rw [if_pos (by unfold Region.wanted; rw [gb])]
  have had : a1.defers = [] := by have := hr1.d; rw [hD] at this; exact drs_nil this
  have hv := evT_sound hr1.rf hev
  obtain ⟨mb, hmb, hw⟩ : ∃ mb, σ1.ρ (.blk id) = some mb ∧ a1.eval x = .map (some mb) := by
    have hst : ((hpS s1).m (.blk id)).stamp = some 0 := by rw [hpS_blk hH]; rfl
    generalize a1.eval x = u at hv
    cases hv with
    | map _ _ hr => exact ⟨_, hr, rfl⟩
    | mapS _ _ hs => exact absurd (hs 0 hst) (by omega)
  obtain ⟨arr, ha1, ha2, ha3⟩ := map_obj hr1.rf.heap hH hmb
  have hlo : lo ≤ w1.heap.size := by
    have := hr1.d; rw [hD] at this
    exact this.base
  refine ⟨fun f hf => ?_, ?_⟩
  · rw [about_other (by rw [hop]; simp)] at hf; cases hf
  · rw [Oper.semAt_eq _ _ _ (by rw [hop]; simp)]
    rw [execOp_range hop (by rw [hw]; exact run_range_map w1 t kt et mb arr clock ht ha1)]
    simp only [Oper.uponIn, wpOpsIn, Exit.then]
    rw [hdst]
    obtain ⟨x2, hr2⟩ := hr1.rf.heap.other (.mapIter (some mb) clock #[] clock)
    obtain ⟨z1, z2⟩ := slot_sound (d := some ti) (v := .lit (.pointer (some ⟨w1.heap.size, 0, none⟩))) (r := .pointer (some ⟨w1.heap.size, 0, none⟩)) hr1.rf rfl x2 hr2 (.lit _) fun _ => rfl
    have hi : ItOk σ1 ⟨setD s1.tmps (some ti) (.lit (.pointer (some ⟨w1.heap.size, 0, none⟩))), s1.H, s1.D⟩ (w1.alloc (.mapIter (some mb) clock #[] clock)) w1.heap.size ti id es clock es none := by
      refine ⟨?_, hH, ⟨mb, clock, clock, #[], hmb, heap_alloc_new _ _, hold, Nat.le_refl _, Nat.le_refl _, (List.filter_eq_self.2 fun _ _ => by simp).symm, fun _ h => by cases h⟩, fun l hl hb' => ?_, fun hF => ?_⟩
      · show (setD s1.tmps (some ti) _)[ti]? = _
        simp [setD, hlt]
      · obtain ⟨b', o', k1, k2, _⟩ := z1.heap.obj l hl
        rw [hb'] at k1
        cases k1
        obtain ⟨b'', o'', k3, k4, _⟩ := hr1.rf.heap.obj l (alive_set (v := .lit (.pointer (some ⟨w1.heap.size, 0, none⟩))) (by intro cs h; cases h) hl)
        rw [hb'] at k3
        cases k3
        exact absurd (lt_of_heap k4) (by omega)
      · exact absurd (hr1.rf.heap.F _ hF) (by omega)
    have hrs : RS lo σ1 ⟨setD s1.tmps (some ti) (.lit (.pointer (some ⟨w1.heap.size, 0, none⟩))), s1.H, s1.D⟩ (w1.alloc (.mapIter (some mb) clock #[] clock)) (a1.put (some ti) (.pointer (some ⟨w1.heap.size, 0, none⟩))) :=
      ⟨z1, by rw [put_defers]; exact hr1.d.ext z2 hr1.rf.heap⟩
    refine wpIn_block ?_
    intro bb k cs hro hb' hroom
    obtain ⟨a2, w2, hq, harr⟩ := mloop_good hE hO hm hrd m (hlo := hlo) (hr0 := Nat.le_refl _) hn es.length rfl (hR w1.heap.size) hrs z2 hD (by rw [put_defers]; exact had) hi (fun _ h => h) bb k cs hro hb' hroom
    obtain ⟨σ3, s3, q1, q2, q3⟩ := hq
    refine ⟨.exit m.x, a2, w2, ?_, .of_steps (.one (fenced_calm (n := 0) hb' hroom rfl) stepR_loop) harr⟩
    simp only [Exit.inBlock, if_pos]
    exact ⟨trivial, σ3, s3, q1, q2, x1.trans q3⟩
end
end Go.Proofs.Ytmmabdpmeijgmaa.AM
