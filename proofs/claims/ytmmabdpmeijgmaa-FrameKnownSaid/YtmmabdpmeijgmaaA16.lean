/- Frames within frames: the memory that they share. -/
import Derived.Test.YtmmabdpmeijgmaaA15
import Derived.RangeFuncIn
import Derived.RangeFuncRecord
namespace Go.Proofs.Ytmmabdpmeijgmaa.AM
open Go

section
variable {σ σ' σ2 : Sim} {h h' h2 : Hp} {w w' w2 : World} {P : Program} {ti : TI} {tmps tmps' : List AV} {H H' H2 : List AObj} {A A2 : Nat → Prop} {a : Act}

/-- What a value tells does not hang on the frame's own variables. -/
theorem V.blks (h1 : ∀ id, σ'.ρ (.blk id) = σ.ρ (.blk id)) (hF : ∀ b, σ.F b → σ'.F b) (h3 : ∀ id, h'.m (.blk id) = h.m (.blk id)) (h4 : ∀ id, h.al id → h'.al id) {c : AV} {u : Value} (hv : V σ h w c u) : V σ' h' w c u := by
  induction hv with
  | lit v => exact .lit v
  | ptr hs ha hr => exact .ptr (by rw [h3]; exact hs) (h4 _ ha) (by rw [h1]; exact hr)
  | ptrS hu ha hs => exact .ptrS hu (h4 _ ha) (fun L hL => hs L (by rw [← h3]; exact hL))
  | rptr vs hsp hf h1 hc hv hz ih => exact .rptr vs hsp (hF _ hf) h1 hc ih hz
  | slc hs ha hr hb hlc hcap => exact .slc (by rw [h3]; exact hs) (h4 _ ha) (by rw [h1]; exact hr) hb hlc hcap
  | slcS hu ha hs => exact .slcS hu (h4 _ ha) (fun L hL => hs L (by rw [← h3]; exact hL))
  | rslc vs hsp hf h1 hlc hc hv hz ih => exact .rslc vs hsp (hF _ hf) h1 hlc hc ih hz
  | rslc0 => exact .rslc0
  | z0 => exact .z0
  | map hs ha hr => exact .map (by rw [h3]; exact hs) (h4 _ ha) (by rw [h1]; exact hr)
  | mapS hu ha hs => exact .mapS hu (h4 _ ha) (fun L hL => hs L (by rw [← h3]; exact hL))
  | fn hx hy h1 h2 ih1 ih2 => exact .fn hx hy ih1 ih2
  | yld hs ha hr => exact .yld (by rw [h3]; exact hs) (h4 _ ha) (by rw [h1]; exact hr)
  | yldS hu ha hs => exact .yldS hu (h4 _ ha) (fun L hL => hs L (by rw [← h3]; exact hL))
  | ifc hv ih => exact .ifc ih
  | agg hl h1 hv ih => exact .agg hl h1 ih
  | tup hl hv ih => exact .tup hl ih
  | dead u => exact .dead u

theorem obj_blks (h1 : ∀ id, σ'.ρ (.blk id) = σ.ρ (.blk id)) (hF : ∀ b, σ.F b → σ'.F b) (h3 : ∀ id, h'.m (.blk id) = h.m (.blk id)) (h4 : ∀ id, h.al id → h'.al id) {x : AObj} {o : Obj} (ho : ObjRel σ h w x o) : ObjRel σ' h' w x o := by
  have k : ∀ {c : AV} {u : Value}, V σ h w c u → V σ' h' w c u := fun hv => hv.blks h1 hF h3 h4
  cases x with
  | dead => trivial
  | cells cs =>
    cases o <;> simp only [ObjRel] at ho ⊢
    rename_i arr e f
    obtain ⟨lo, hi⟩ := f
    obtain ⟨h1, h2, h3, h4⟩ := ho
    exact ⟨h1, h2, h3, fun i c hi => let ⟨u, h5, h6, h7⟩ := h4 i c hi; ⟨u, h5, h6, k h7⟩⟩
  | map es clock =>
    cases o <;> simp only [ObjRel] at ho ⊢
    obtain ⟨h1, h2, h4⟩ := ho
    exact ⟨h1, h2, fun i c hi => let ⟨u, h5, h6, h7, h8⟩ := h4 i c hi; ⟨u, h5, k h6, k h7, h8⟩⟩
  | loop st pend fn tmps ps asg body =>
    cases o <;> simp only [ObjRel] at ho ⊢
    obtain ⟨h1, h2, h3, h4, h5, h6, h7, h8⟩ := ho
    exact ⟨h1, h2, h3, h4, h5, h6, h7, fun i c u hi hu => k (h8 i c u hi hu)⟩

theorem m_blk (tmps tmps' : List AV) (H : List AObj) (A A' : Nat → Prop) (id : Nat) : (hpA tmps H A).m (.blk id) = (hpA tmps' H A').m (.blk id) := rfl

theorem box_nil (t : Nat) (H : List AObj) (A : Nat → Prop) : (hpA [] H A).m (.box t) = .dead := by simp [hpA, mOf, boxOf]

theorem alive_nil {l : Loc} (hl : (hpA [] H A).m l ≠ .dead) : ∃ id, l = .blk id := by
  cases l with
  | blk id => exact ⟨id, rfl⟩
  | box t => exact absurd (box_nil t H A) hl

/-- The memory without the frame's variables. -/
theorem RH.noBoxes (hr : RH σ (hpA tmps H A) w) : RH σ (hpA [] H A) w := by
  refine ⟨fun l hl => ?_, fun l l' b hl hl' => ?_, hr.F, fun id hid => hr.al id hid⟩
  · obtain ⟨id, rfl⟩ := alive_nil hl
    obtain ⟨b, o, h1, h2, h3, h4⟩ := hr.obj (.blk id) hl
    exact ⟨b, o, h1, h2, obj_blks (σ := σ) (σ' := σ) (h := hpA tmps H A) (h' := hpA [] H A) (fun _ => rfl) (fun _ h => h) (fun _ => rfl) (fun _ h => h) h3, h4⟩
  · obtain ⟨id, rfl⟩ := alive_nil hl
    obtain ⟨id', rfl⟩ := alive_nil hl'
    exact hr.inj (.blk id) (.blk id') b hl hl'

theorem Ext.noBoxes (x : Ext σ h w σ2 (hpA tmps H2 A2) w2) : Ext σ h w σ2 (hpA [] H2 A2) w2 where
  os := x.os
  tape := x.tape
  output := x.output
  size := x.size
  keep := x.keep
  shape := x.shape
  al := x.al
  same := x.same
  grow := x.grow
  frozen := x.frozen
  fresh := x.fresh
  new := fun l b hl he => by
    obtain ⟨id, rfl⟩ := alive_nil hl
    exact x.new (.blk id) b hl he

/-- The frame's places, the memory's blocks. -/
def joinS (σ σ2 : Sim) : Sim := { ρ := fun | .box t => σ.ρ (.box t) | .blk id => σ2.ρ (.blk id), F := σ2.F }

theorem VT_congr {t : Nat} {c : AV} {u : Value} (hb : ∀ s, σ'.ρ (.box s) = σ.ρ (.box s)) (hk : ∀ {c u}, V σ h w c u → V σ' h' w' c u) (hv : VT σ h w t c u) : VT σ' h' w' t c u := by
  cases c with
  | lbox cs => obtain ⟨b, h1, h2⟩ := hv; exact ⟨b, by rw [hb]; exact h1, h2⟩
  | lptr s o => obtain ⟨b, h1, h2⟩ := hv; exact ⟨b, by rw [hb]; exact h1, h2⟩
  | _ => exact hk hv

/-- Behind a frame of its own, the frame goes on. -/
theorem rejoin (hr : RF σ (hpA tmps H A) w tmps a) (x : Ext σ (hpA [] H A) w σ2 (hpA [] H2 A2) w2) (hr2 : RH σ2 (hpA [] H2 A2) w2) :
    RF (joinS σ σ2) (hpA tmps H2 A2) w2 tmps a ∧ Ext σ (hpA tmps H A) w (joinS σ σ2) (hpA tmps H2 A2) w2 ∧ (∀ {c u}, V σ2 (hpA [] H2 A2) w2 c u → V (joinS σ σ2) (hpA tmps H2 A2) w2 c u) := by
  have kv : ∀ {c u}, V σ2 (hpA [] H2 A2) w2 c u → V (joinS σ σ2) (hpA tmps H2 A2) w2 c u := fun hv => V.blks (σ := σ2) (σ' := joinS σ σ2) (h := hpA [] H2 A2) (h' := hpA tmps H2 A2) (fun _ => rfl) (fun _ h => h) (fun _ => rfl) (fun _ h => h) hv
  have kept : ∀ t b, boxOf tmps t ≠ .dead → σ.ρ (.box t) = some b → b < w.heap.size ∧ w2.heap[b]? = w.heap[b]? := fun t b ht hb => by
    obtain ⟨b', o, h1, h2, _, _⟩ := hr.heap.obj (.box t) ht
    rw [hb] at h1
    cases h1
    have hlt := lt_of_heap h2
    refine ⟨hlt, x.keep b hlt fun l hl e => ?_⟩
    obtain ⟨id, rfl⟩ := alive_nil hl
    have := hr.heap.inj (.blk id) (.box t) b hl ht e hb
    cases this
  have xe : Ext σ (hpA tmps H A) w (joinS σ σ2) (hpA tmps H2 A2) w2 := {
    os := x.os
    tape := x.tape
    output := x.output
    size := x.size
    keep := fun b hb hn => x.keep b hb fun l hl => by
      obtain ⟨id, rfl⟩ := alive_nil hl
      exact hn (.blk id) hl
    shape := x.shape
    al := x.al
    same := fun id st ha h1 h2 => x.same id st ha h1 h2
    grow := fun id L ha hL => x.grow id L ha hL
    frozen := x.frozen
    fresh := fun b hb => by
      rcases x.fresh b hb with h | h | ⟨l, h1, h2⟩
      · exact .inl h
      · exact .inr (.inl h)
      · obtain ⟨id, rfl⟩ := alive_nil h1
        exact .inr (.inr ⟨.blk id, h1, h2⟩)
    new := fun l b hl he => by
      cases l with
      | box t => exact .inr ⟨hl, he⟩
      | blk id =>
        rcases x.new (.blk id) b hl he with h | ⟨h1, h2⟩
        · exact .inl h
        · exact .inr ⟨h1, h2⟩ }
  have F2 : ∀ b, σ2.F b → σ.F b ∨ w.heap.size ≤ b ∨ ∃ id, (hpA tmps H A).m (.blk id) ≠ .dead ∧ σ.ρ (.blk id) = some b := fun b hb => by
    rcases x.fresh b hb with h | h | ⟨l, h1, h2⟩
    · exact .inl h
    · exact .inr (.inl h)
    · obtain ⟨id, rfl⟩ := alive_nil h1
      exact .inr (.inr ⟨id, h1, h2⟩)
  refine ⟨⟨⟨fun l hl => ?_, fun l l' b hl hl' e e' => ?_, hr2.F, hr2.al⟩, fun _ => rfl, hr.len, fun t c u hc hu => ?_⟩, xe, kv⟩
  · cases l with
    | blk id =>
      obtain ⟨b, o, h1, h2, h3, h4⟩ := hr2.obj (.blk id) hl
      exact ⟨b, o, h1, h2, obj_blks (σ := σ2) (σ' := joinS σ σ2) (h := hpA [] H2 A2) (h' := hpA tmps H2 A2) (fun _ => rfl) (fun _ h => h) (fun _ => rfl) (fun _ h => h) h3, h4⟩
    | box t =>
      obtain ⟨b, o, h1, h2, h3, h4⟩ := hr.heap.obj (.box t) hl
      obtain ⟨k1, k2⟩ := kept t b hl h1
      refine ⟨b, o, h1, k2.trans h2, obj_ext xe hr.heap h3, fun hb => ?_⟩
      rcases F2 b hb with h | h | ⟨id, h5, h6⟩
      · exact h4 h
      · omega
      · have := hr.heap.inj (.blk id) (.box t) b h5 hl h6 h1
        cases this
  · cases l with
    | blk id =>
      cases l' with
      | blk id' => exact hr2.inj (.blk id) (.blk id') b hl hl' e e'
      | box t =>
        have hk := kept t b hl' e'
        rcases x.new (.blk id) b hl e with h | ⟨h1, h2⟩
        · omega
        · have := hr.heap.inj (.blk id) (.box t) b h1 hl' h2 e'
          cases this
    | box t =>
      cases l' with
      | box t' => exact hr.heap.inj (.box t) (.box t') b hl hl' e e'
      | blk id =>
        have hk := kept t b hl e
        rcases x.new (.blk id) b hl' e' with h | ⟨h1, h2⟩
        · omega
        · have := hr.heap.inj (.blk id) (.box t) b h1 hl h2 e
          cases this
  · exact VT_congr (σ := σ) (h := hpA tmps H A) (w := w) (fun _ => rfl) (fun hv => V.ext xe hr.heap hv) (hr.val t c u hc hu)

/-- A frame begins: none of its slots is a variable of its own. -/
def noBox (tmps : List AV) : Prop := ∀ (t : Nat) c, tmps[t]? = some c → (∀ cs, c ≠ .lbox cs) ∧ ∀ s o, c ≠ .lptr s o

theorem boxOf_noBox (hn : noBox tmps) (t : Nat) : boxOf tmps t = .dead := by
  unfold boxOf
  cases h : tmps[t]? with
  | none => rfl
  | some c =>
    cases c <;> first | rfl | exact absurd rfl ((hn t _ h).1 _)

theorem hpA_noBox (hn : noBox tmps) (H : List AObj) (A : Nat → Prop) : hpA tmps H A = hpA [] H A := by
  unfold hpA
  congr 1
  funext l
  cases l with
  | blk id => rfl
  | box t => simp only [mOf, boxOf_noBox hn t]; simp [boxOf]

theorem begins (hr : RH σ (hpA [] H A) w) (hn : noBox tmps) {a : Act} (hl : a.tmps.size = tmps.length) (hv : ∀ (t : Nat) c (u : Value), tmps[t]? = some c → a.tmps[t]? = some u → V σ (hpA [] H A) w c u) : RF σ (hpA tmps H A) w tmps a := by
  rw [hpA_noBox hn]
  refine ⟨hr, fun t => by rw [box_nil, boxOf_noBox hn], hl, fun t c u hc hu => ?_⟩
  have := hn t c hc
  have hv := hv t c u hc hu
  cases c <;> first | exact hv | exact absurd rfl (this.1 _) | exact absurd rfl (this.2 _ _)

end
end Go.Proofs.Ytmmabdpmeijgmaa.AM
