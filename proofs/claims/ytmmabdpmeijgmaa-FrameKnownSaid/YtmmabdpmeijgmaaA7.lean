/- Cuts are sound; rows are made, and grow. -/
import Derived.Test.YtmmabdpmeijgmaaA6
namespace Go.Proofs.Ytmmabdpmeijgmaa.AM
open Go
section
variable {σ σ' : Sim} {h h' : Hp} {w w' : World} {P : Program} {ti : TI} {tmps : List AV} {a : Act}

/-- What is known of an optional operand. -/
def OptV (σ : Sim) (h : Hp) (w : World) (x : Option AV) (u : Option Value) : Prop := (∀ c, x = some c → ∃ v, u = some v ∧ V σ h w c v) ∧ (x = none → u = none)

theorem aSliceOp_sound (hti : TIok P ti) {t : TypeId} {x c : AV} {lo hi mx : Option AV} {u : Value} {lov hiv mxv : Option Value} (hx : aSliceOp ti h.m t x lo hi mx = some c) (hu : V σ h w x u)
    (hlo : OptV σ h w lo lov) (hhi : OptV σ h w hi hiv) (hmx : OptV σ h w mx mxv) : ∃ r, (Instr.sliceAt t u lov hiv mxv).run P w = .ok r w ∧ V σ h w c r := by
  unfold aSliceOp at hx
  simp only [Option.bind_eq_bind, Option.bind_eq_some_iff] at hx
  obtain ⟨l, hl, hh, hhb, cc, hcb, hx⟩ := hx
  have mxnone : cc = none → mx = none := by
    intro hc
    subst hc
    cases mx with
    | none => rfl
    | some m => simp [bound?] at hcb
  split at hx
  · -- a string
    rename_i s
    split at hx
    · rename_i hc
      obtain ⟨ht, hcn, h0, h1, h2⟩ := hc
      cases hx
      cases hu
      have ht := isStr_und ht
      have hm := hmx.2 (mxnone hcn)
      subst hm
      have hb := run_bounds (P := P) (isSlice := false) (len := s.size) (cap := s.size) hl hhb hlo.1 hlo.2 hhi.1 hhi.2 h0 h1 h2
      refine ⟨_, ?_, .lit _⟩
      simp only [Instr.sliceAt, Sem.run_bind, run_und hti ht, Result.andThen_ok, Instr.slice]
      simp [hb]
    · cases hx
  · -- nil
    split at hx
    · rename_i hc
      obtain ⟨ht, h0, h1, h2, h3⟩ := hc
      obtain ⟨n, hn⟩ := Option.isSome_iff_exists.1 ht
      obtain ⟨e, he, hn⟩ := Option.bind_eq_some_iff.1 hn
      cases hx
      cases hu
      have ht := elemOf_und he
      have hb := run_bounds0 (P := P) (isSlice := true) (len := 0) (cap := 0) hl hhb hcb hlo.1 hlo.2 hhi.1 hhi.2 hmx.1 hmx.2 h0 (by simpa using h1) (by simpa using h2) h3
      refine ⟨_, ?_, .lit _⟩
      simp only [Instr.sliceAt, Sem.run_bind, run_und hti ht, Result.andThen_ok, Instr.slice]
      simp [hb, run_sizeOf hti hn]
    · cases hx
  · -- nothing
    split at hx
    · rename_i hc
      obtain ⟨ht, h0, h1, h2, h3⟩ := hc
      obtain ⟨n, hn⟩ := Option.isSome_iff_exists.1 ht
      obtain ⟨e, he, hn⟩ := Option.bind_eq_some_iff.1 hn
      cases hx
      cases hu
      rename_i ar
      have ht := elemOf_und he
      have hb := run_bounds0 (P := P) (isSlice := true) (len := 0) (cap := 0) hl hhb hcb hlo.1 hlo.2 hhi.1 hhi.2 hmx.1 hmx.2 h0 (by simpa using h1) (by simpa using h2) h3
      refine ⟨.slice ar 0 0, ?_, .z0⟩
      simp only [Instr.sliceAt, Sem.run_bind, run_und hti ht, Result.andThen_ok, Instr.slice]
      simp [hb, run_sizeOf hti hn]
    · cases hx
  · -- a row of the abstract memory's own
    rename_i id off len esz st
    simp only [Option.bind_eq_some_iff] at hx
    obtain ⟨e, he, n, hn, hx⟩ := hx
    have ht := elemOf_und he
    split at hx
    · rename_i hc
      obtain ⟨hs, rfl⟩ := hc
      cases hu with
      | slcS k1 k2 k3 =>
        have := k3 st hs
        omega
      | slc k1 k2 k3 k4 k5 k6 =>
        rename_i b cap arr ee f
        split at hx
        · split at hx
          · rename_i hc
            cases hx
            obtain ⟨h0, rfl⟩ := hc
            have hb := run_bounds0 (P := P) (isSlice := true) (len := len) (cap := cap) hl hhb hcb hlo.1 hlo.2 hhi.1 hhi.2 hmx.1 hmx.2 h0 rfl rfl (by simp)
            refine ⟨.slice (some ⟨b, off, none⟩) 0 0, ?_, .z0⟩
            simp only [Instr.sliceAt, Sem.run_bind, run_und hti ht, Result.andThen_ok, Instr.slice]
            simp [hb, run_sizeOf hti hn]
          · cases hx
        · cases hx
        · have hm := hmx.2 (mxnone rfl)
          subst hm
          split at hx
          · rename_i hc
            obtain ⟨h0, h1, h2⟩ := hc
            have hb := run_bounds (P := P) (isSlice := true) (len := len) (cap := cap) hl hhb hlo.1 hlo.2 hhi.1 hhi.2 h0 h1 (by omega)
            have hrun : (Instr.sliceAt t (.slice (some ⟨b, off, none⟩) len cap) lov hiv none).run P w =
                .ok (.slice (if cap = (l.getD 0).toNat then some ⟨b, off, none⟩ else some (⟨b, off + (l.getD 0).toNat * esz, none⟩)) ((hh.getD len).toNat - (l.getD 0).toNat) (cap - (l.getD 0).toNat)) w := by
              simp only [Instr.sliceAt, Sem.run_bind, run_und hti ht, Result.andThen_ok, Instr.slice]
              simp [hb, run_sizeOf hti hn, add_of]
            refine ⟨_, hrun, ?_⟩
            split at hx
            · rename_i heq
              cases hx
              have : (hh.getD len).toNat - (l.getD 0).toNat = 0 := by omega
              rw [this]
              exact .rslc0
            · rename_i hne
              cases hx
              have e1 : (hh.getD len).toNat - (l.getD 0).toNat = (hh.getD len - l.getD 0).toNat := by omega
              rw [e1, if_neg (by omega)]
              refine .slc hs k2 k3 k4 (by omega) ?_
              have e2 : (cap - (l.getD 0).toNat) * esz = cap * esz - (l.getD 0).toNat * esz := Nat.sub_mul _ _ _
              have e3 : (l.getD 0).toNat * esz ≤ cap * esz := Nat.mul_le_mul_right _ (by omega)
              omega
          · cases hx
    · cases hx
  · -- a frozen row
    rename_i esz es
    simp only [Option.bind_eq_some_iff] at hx
    obtain ⟨e, he, n, hn, hx⟩ := hx
    have ht := elemOf_und he
    split at hx
    · rename_i hc
      subst hc
      have main : ∀ (ar : Option Addr) (cap : Nat), es.length ≤ cap → u = .slice ar es.length cap →
          (∀ (L H : Nat), L ≤ H → H ≤ es.length → V σ h w (.rslc esz ((es.drop L).take (H - L))) (.slice (if cap = L then ar else ar.map (·.add (L * esz))) (H - L) (cap - L))) →
          ∃ r, (Instr.sliceAt t u lov hiv mxv).run P w = .ok r w ∧ V σ h w c r := by
        intro ar cap hlc hu' hV
        subst hu'
        split at hx
        · split at hx
          · rename_i hc
            cases hx
            obtain ⟨h0, rfl⟩ := hc
            have hb := run_bounds0 (P := P) (isSlice := true) (len := es.length) (cap := cap) hl hhb hcb hlo.1 hlo.2 hhi.1 hhi.2 hmx.1 hmx.2 h0 rfl rfl (by simp)
            refine ⟨.slice ar 0 0, ?_, .z0⟩
            simp only [Instr.sliceAt, Sem.run_bind, run_und hti ht, Result.andThen_ok, Instr.slice]
            simp [hb, run_sizeOf hti hn]
          · cases hx
        · cases hx
        · have hm := hmx.2 (mxnone rfl)
          subst hm
          split at hx
          · rename_i hc
            obtain ⟨h0, h1, h2⟩ := hc
            have hb := run_bounds (P := P) (isSlice := true) (len := es.length) (cap := cap) hl hhb hlo.1 hlo.2 hhi.1 hhi.2 h0 h1 (by omega)
            cases hx
            have e1 : (hh.getD (es.length : Int) - l.getD 0).toNat = (hh.getD (es.length : Int)).toNat - (l.getD 0).toNat := by omega
            rw [e1]
            refine ⟨_, ?_, hV (l.getD 0).toNat (hh.getD (es.length : Int)).toNat (by omega) (by omega)⟩
            simp only [Instr.sliceAt, Sem.run_bind, run_und hti ht, Result.andThen_ok, Instr.slice]
            simp [hb, run_sizeOf hti hn]
          · cases hx
      cases hu with
      | rslc0 =>
        rename_i cap ar
        refine main ar cap (by simp) rfl (fun L H h1 h2 => ?_)
        simp only [List.length_nil, Nat.le_zero] at h2
        subst h2
        have : L = 0 := by omega
        subst this
        exact .rslc0
      | rslc vs hsp hF h1 hlc hc hv hz =>
        rename_i cap ar
        refine main (some ar) cap hlc rfl (fun L H hLH hH => ?_)
        by_cases hHL : H = L
        · subst hHL
          simp only [Nat.sub_self, List.take_zero]
          exact .rslc0
        · rw [if_neg (by omega)]
          have hlen : ((es.drop L).take (H - L)).length = H - L := by simp; omega
          have key : V σ h w (.rslc esz ((es.drop L).take (H - L))) (.slice (some (ar.add (L * esz))) ((es.drop L).take (H - L)).length (cap - L)) := by
            refine .rslc (fun i j => vs (L + i) j) (spot_add _ _ hsp) (by rw [block_add]; exact hF) (fun e he => h1 e (List.mem_of_mem_drop (List.mem_of_mem_take he))) (by omega) (fun i e hi j c hj => ?_) (fun i e hi j c hj => ?_) (fun e he => hz e (List.mem_of_mem_drop (List.mem_of_mem_take he)))
            · have hin : i < H - L := by
                have := (List.getElem?_eq_some_iff.1 hi).1
                omega
              rw [List.getElem?_take_of_lt hin, List.getElem?_drop] at hi
              rw [add_add, ← hc (L + i) e hi j c hj]
              congr 2
              rw [Nat.add_mul]
              omega
            · have hin : i < H - L := by
                have := (List.getElem?_eq_some_iff.1 hi).1
                omega
              rw [List.getElem?_take_of_lt hin, List.getElem?_drop] at hi
              exact hv (L + i) e hi j c hj
          rw [hlen] at key
          exact key
    · cases hx
  · cases hx

theorem aSliceArr_sound (hti : TIok P ti) (hr : RH σ h w) {t : TypeId} {x c : AV} {lo hi : Option AV} {u : Value} {lov hiv : Option Value} (hx : aSliceArr ti h.m t x lo hi = some c) (hu : VA σ h w x u)
    (hlo : OptV σ h w lo lov) (hhi : OptV σ h w hi hiv) : ∃ r, (Instr.sliceAt t u lov hiv none).run P w = .ok r w ∧ V σ h w c r := by
  unfold aSliceArr at hx
  simp only [Option.bind_eq_bind, Option.bind_eq_some_iff, Prod.exists] at hx
  obtain ⟨len, e, he, n, hn, l, hl, hh, hhb, hx⟩ := hx
  have ht := arrOf_und he
  split at hx
  · rename_i id off st
    cases hm : h.m (.blk id) with
    | dead => rw [hm] at hx; cases hx
    | map _ _ => rw [hm] at hx; cases hx
    | loop _ _ _ _ _ _ _ => rw [hm] at hx; cases hx
    | cells cs =>
      rw [hm] at hx
      simp only [] at hx
      split at hx
      · rename_i hc
        obtain ⟨hs, hle, h0, h1, h2⟩ := hc
        cases hx
        simp only [VA] at hu
        cases hu with
        | ptrS k1 k2 k3 =>
          have := k3 cs.length (by rw [hm]; rfl)
          omega
        | ptr k1 k2 k3 =>
          rename_i b
          obtain ⟨b', arr, ee, lo', hi', h5, h6, h7, _⟩ := hr.cells hm
          rw [k3] at h5
          cases h5
          have hb := run_bounds (P := P) (isSlice := false) (len := len) (cap := len) hl hhb hlo.1 hlo.2 hhi.1 hhi.2 h0 (by omega) h2
          have e1 : (hh.getD (len : Int) - l.getD 0).toNat = (hh.getD (len : Int)).toNat - (l.getD 0).toNat := by omega
          rw [e1]
          refine ⟨.slice (some ⟨b, off + (l.getD 0).toNat * n, none⟩) ((hh.getD (len : Int)).toNat - (l.getD 0).toNat) (len - (l.getD 0).toNat), ?_, .slc k1 k2 k3 h6 (by omega) ?_⟩
          · simp only [Instr.sliceAt, Sem.run_bind, run_und hti ht, Result.andThen_ok]
            have hne : ¬ (len = (l.getD 0).toNat) := by omega
            simp [hb, run_sizeOf hti hn, Instr.sureAddr, hne, add_of]
          · have e2 : (len - (l.getD 0).toNat) * n = len * n - (l.getD 0).toNat * n := Nat.sub_mul _ _ _
            have e3 : (l.getD 0).toNat * n ≤ len * n := Nat.mul_le_mul_right _ (by omega)
            omega
      · cases hx
  · cases hx
end
end Go.Proofs.Ytmmabdpmeijgmaa.AM
