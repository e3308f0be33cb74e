/- Values that are frozen: what a call that is given nothing of the memory's own sees. -/
import Derived.Test.YtmmabdpmeijgmaaA13
namespace Go.Proofs.Ytmmabdpmeijgmaa.AM
open Go

def frzL (F : AV → Option (AV × List Loc)) : List AV → Option (List AV × List Loc)
  | [] => some ([], [])
  | c :: cs => do
    let (c', r) ← F c
    let (cs', r') ← frzL F cs
    some (c' :: cs', r ++ r')

def chunk (n : Nat) : Nat → List AV → List (List AV)
  | 0, _ => []
  | k + 1, cs => cs.take n :: chunk n k (cs.drop n)

def frzStep (F : AV → Option (AV × List Loc)) (m : Loc → AObj) : AV → Option (AV × List Loc)
  | .lit v => some (.lit v, [])
  | .z0 => some (.z0, [])
  | .rptr cs => some (.rptr cs, [])
  | .rslc e es => some (.rslc e es, [])
  | .ptr id off st => match m (.blk id) with
    | .cells cs => if cs.length = st then do
        let (cs', rd) ← frzL F (cs.drop off)
        some (.rptr cs', .blk id :: rd)
      else none
    | _ => none
  | .slc id off len esz st => match m (.blk id) with
    | .cells cs => if cs.length = st ∧ off + len * esz ≤ st ∧ 0 < esz then do
        let (cs', rd) ← frzL F ((cs.drop off).take (len * esz))
        some (.rslc esz (chunk esz len cs'), .blk id :: rd)
      else none
    | _ => none
  | .fn f xs ys => do
    let (xs', r) ← frzL F xs
    let (ys', r') ← frzL F ys
    some (.fn f xs' ys', r ++ r')
  | .ifc t v => do
    let (v', r) ← F v
    some (.ifc t v', r)
  | .agg cs => do
    let (cs', r) ← frzL F cs
    some (.agg cs', r)
  | .tup cs => do
    let (cs', r) ← frzL F cs
    some (.tup cs', r)
  | _ => none

def frz : Nat → (Loc → AObj) → AV → Option (AV × List Loc)
  | 0, _, _ => none
  | n + 1, m, v => frzStep (frz n m) m v

/-- As 'frz', of values in which nothing is frozen yet. -/
def frzStepN (F : AV → Option (AV × List Loc)) (m : Loc → AObj) : AV → Option (AV × List Loc)
  | .lit v => some (.lit v, [])
  | .z0 => some (.z0, [])
  | .rptr _ => none
  | .rslc e es => if es.isEmpty then some (.rslc e es, []) else none
  | .ptr id off st => match m (.blk id) with
    | .cells cs => if cs.length = st then do
        let (cs', rd) ← frzL F (cs.drop off)
        some (.rptr cs', .blk id :: rd)
      else none
    | _ => none
  | .slc id off len esz st => match m (.blk id) with
    | .cells cs => if cs.length = st ∧ off + len * esz ≤ st ∧ 0 < esz then do
        let (cs', rd) ← frzL F ((cs.drop off).take (len * esz))
        some (.rslc esz (chunk esz len cs'), .blk id :: rd)
      else none
    | _ => none
  | .fn f xs ys => do
    let (xs', r) ← frzL F xs
    let (ys', r') ← frzL F ys
    some (.fn f xs' ys', r ++ r')
  | .ifc t v => do
    let (v', r) ← F v
    some (.ifc t v', r)
  | .agg cs => do
    let (cs', r) ← frzL F cs
    some (.agg cs', r)
  | .tup cs => do
    let (cs', r) ← frzL F cs
    some (.tup cs', r)
  | _ => none

def frzN : Nat → (Loc → AObj) → AV → Option (AV × List Loc)
  | 0, _, _ => none
  | n + 1, m, v => frzStepN (frzN n m) m v

theorem frzL_spec {F : AV → Option (AV × List Loc)} : ∀ {cs cs' : List AV} {rd : List Loc}, frzL F cs = some (cs', rd) → cs'.length = cs.length ∧
    ∀ (i : Nat) c, cs[i]? = some c → ∃ c' r, cs'[i]? = some c' ∧ F c = some (c', r) ∧ ∀ l ∈ r, l ∈ rd
  | [], _, _, h => by cases h; exact ⟨rfl, fun i c hi => by simp at hi⟩
  | c :: cs, cs', rd, h => by
    simp only [frzL, Option.bind_eq_bind, Option.bind_eq_some_iff, Prod.exists] at h
    obtain ⟨c', r, h1, cs1, r1, h2, h⟩ := h
    cases h
    obtain ⟨h3, h4⟩ := frzL_spec h2
    refine ⟨by simp [h3], fun i x hi => ?_⟩
    match i with
    | 0 => simp at hi; subst hi; exact ⟨c', r, rfl, h1, fun l hl => by simp [hl]⟩
    | i + 1 =>
      obtain ⟨c2, r2, h5, h6, h7⟩ := h4 i x (by simpa using hi)
      exact ⟨c2, r2, by simpa using h5, h6, fun l hl => by simp [h7 l hl]⟩

theorem frzL_mem {F : AV → Option (AV × List Loc)} {cs cs' : List AV} {rd : List Loc} (h : frzL F cs = some (cs', rd)) {c' : AV} (hc : c' ∈ cs') : ∃ (i : Nat) (c : AV) (r : List Loc), cs[i]? = some c ∧ cs'[i]? = some c' ∧ F c = some (c', r) ∧ ∀ l ∈ r, l ∈ rd := by
  obtain ⟨h1, h2⟩ := frzL_spec h
  obtain ⟨i, hi, he⟩ := List.mem_iff_getElem.1 hc
  have hlt : i < cs.length := by omega
  obtain ⟨c2, r, h3, h4, h5⟩ := h2 i cs[i] (List.getElem?_eq_getElem hlt)
  have : c2 = c' := by rw [List.getElem?_eq_getElem hi, he] at h3; exact (Option.some.inj h3).symm
  subst this
  exact ⟨i, cs[i], r, List.getElem?_eq_getElem hlt, h3, h4, h5⟩

theorem length_chunk (n : Nat) : ∀ (k : Nat) (cs : List AV), (chunk n k cs).length = k
  | 0, _ => rfl
  | k + 1, cs => by simp [chunk, length_chunk n k]

theorem getElem?_chunk (n : Nat) : ∀ (k : Nat) (cs : List AV) (i : Nat), (chunk n k cs)[i]? = if i < k then some ((cs.drop (i * n)).take n) else none
  | 0, _, i => by simp [chunk]
  | k + 1, cs, i => by
    match i with
    | 0 => simp [chunk]
    | i + 1 =>
      simp only [chunk, List.getElem?_cons_succ, getElem?_chunk n k, List.drop_drop, Nat.add_lt_add_iff_right]
      rw [show n + i * n = (i + 1) * n by rw [Nat.succ_mul]; omega]

section
variable {σ σ' : Sim} {h h' : Hp} {w w' : World} {P : Program} {ti : TI} {tmps : List AV} {a : Act}

/-- What is frozen is told by whatever memory. -/
theorem V.frozen (hF : ∀ b, σ.F b → σ'.F b) (hw : ∀ b, σ.F b → w'.heap[b]? = w.heap[b]?) {c : AV} {u : Value} (hv : V σ h w c u) : Fz c → V σ' h' w' c u := by
  induction hv with
  | lit v => exact fun _ => .lit v
  | ptr => intro hz; cases hz
  | ptrS => intro hz; cases hz
  | rptr vs hsp hf h1 hc hv hz ih =>
    exact fun _ => .rptr vs hsp (hF _ hf) h1 (fun i c hi => (cell?_congr (by rw [block_add]; exact hw _ hf)).trans (hc i c hi)) (fun i c hi => ih i c hi (hz c (List.mem_of_getElem? hi))) hz
  | slc => intro hz; cases hz
  | slcS => intro hz; cases hz
  | rslc vs hsp hf h1 hlc hc hv hz ih =>
    exact fun _ => .rslc vs hsp (hF _ hf) h1 hlc (fun i e hi j c hj => (cell?_congr (by rw [block_add]; exact hw _ hf)).trans (hc i e hi j c hj))
      (fun i e hi j c hj => ih i e hi j c hj (hz e (List.mem_of_getElem? hi) c (List.mem_of_getElem? hj))) hz
  | rslc0 => exact fun _ => .rslc0
  | z0 => exact fun _ => .z0
  | map => intro hz; cases hz
  | mapS => intro hz; cases hz
  | fn hx hy h1 h2 ih1 ih2 =>
    intro hz
    cases hz with
    | fn z1 z2 => exact .fn hx hy (fun i c u hi hu => ih1 i c u hi hu (z1 c (List.mem_of_getElem? hi))) (fun i c u hi hu => ih2 i c u hi hu (z2 c (List.mem_of_getElem? hi)))
  | yld => intro hz; cases hz
  | yldS => intro hz; cases hz
  | ifc hv ih => intro hz; cases hz with | ifc hz => exact .ifc (ih hz)
  | agg hl h1 hv ih => intro hz; cases hz with | agg hz => exact .agg hl h1 fun i c u hi hu => ih i c u hi hu (hz c (List.mem_of_getElem? hi))
  | tup hl hv ih => intro hz; cases hz with | tup hz => exact .tup hl fun i c u hi hu => ih i c u hi hu (hz c (List.mem_of_getElem? hi))
  | dead u => intro hz; cases hz

theorem V.fz_rptr {cs : List AV} {u : Value} (hv : V σ h w (.rptr cs) u) : Fz (.rptr cs) := by
  cases hv with
  | rptr _ _ _ _ _ _ hz => exact .rptr hz

theorem V.fz_rslc {esz : Nat} {es : List (List AV)} {u : Value} (hv : V σ h w (.rslc esz es) u) : Fz (.rslc esz es) := by
  cases hv with
  | rslc _ _ _ _ _ _ _ hz => exact .rslc hz
  | rslc0 => exact .rslc (fun e he => by cases he)

/-- The blocks that a value's being frozen takes. -/
def Cov (σ : Sim) (rd : List Loc) (b : Nat) : Prop := σ.F b ∨ ∃ l ∈ rd, σ.ρ l = some b

theorem frz_sound (hr : RH σ h w) : ∀ (n : Nat) {c c' : AV} {rd : List Loc} {u : Value}, frz n h.m c = some (c', rd) → V σ h w c u →
    Fz c' ∧ (c.one = true → c'.one = true) ∧ ∀ (σ' : Sim) (h' : Hp) (w' : World), (∀ b, Cov σ rd b → σ'.F b) → (∀ b, Cov σ rd b → w'.heap[b]? = w.heap[b]?) → V σ' h' w' c' u := by
  intro n
  induction n with
  | zero => intro c c' rd u hz; cases hz
  | succ n ih =>
    intro c c' rd u hz hv
    simp only [frz] at hz
    -- lists of values
    have lst : ∀ {cs cs' : List AV} {rd' : List Loc} {us : Nat → Value}, frzL (frz n h.m) cs = some (cs', rd') → (∀ l ∈ rd', l ∈ rd) → (∀ (i : Nat) c, cs[i]? = some c → V σ h w c (us i)) →
        cs'.length = cs.length ∧ (∀ c ∈ cs', Fz c) ∧ ((∀ c ∈ cs, c.one = true) → ∀ c ∈ cs', c.one = true) ∧
        ∀ (σ' : Sim) (h' : Hp) (w' : World), (∀ b, Cov σ rd b → σ'.F b) → (∀ b, Cov σ rd b → w'.heap[b]? = w.heap[b]?) → ∀ (i : Nat) c, cs'[i]? = some c → V σ' h' w' c (us i) := by
      intro cs cs' rd' us hl hsub hvs
      have hsp := frzL_spec hl
      refine ⟨hsp.1, fun c hc => ?_, fun h1 c hc => ?_, fun σ' h' w' hF hw i c hi => ?_⟩
      · obtain ⟨i, c0, r, k1, _, k3, _⟩ := frzL_mem hl hc
        exact (ih k3 (hvs i c0 k1)).1
      · obtain ⟨i, c0, r, k1, _, k3, _⟩ := frzL_mem hl hc
        exact (ih k3 (hvs i c0 k1)).2.1 (h1 c0 (List.mem_of_getElem? k1))
      · have hlt : i < cs.length := by rw [← hsp.1]; exact (List.getElem?_eq_some_iff.1 hi).1
        obtain ⟨c2, r, k1, k2, k3⟩ := hsp.2 i cs[i] (List.getElem?_eq_getElem hlt)
        rw [hi] at k1
        cases k1
        have cov : ∀ b, Cov σ r b → Cov σ rd b := fun b hb => hb.imp id fun ⟨l, h1, h2⟩ => ⟨l, hsub l (k3 l h1), h2⟩
        exact (ih k2 (hvs i _ (List.getElem?_eq_getElem hlt))).2.2 σ' h' w' (fun b hb => hF b (cov b hb)) (fun b hb => hw b (cov b hb))
    have lstA : ∀ {cs cs' : List AV} {rd' : List Loc} {us : Array Value}, us.size = cs.length → frzL (frz n h.m) cs = some (cs', rd') → (∀ l ∈ rd', l ∈ rd) → (∀ (i : Nat) c (u : Value), cs[i]? = some c → us[i]? = some u → V σ h w c u) →
        us.size = cs'.length ∧ (∀ c ∈ cs', Fz c) ∧ ((∀ c ∈ cs, c.one = true) → ∀ c ∈ cs', c.one = true) ∧
        ∀ (σ' : Sim) (h' : Hp) (w' : World), (∀ b, Cov σ rd b → σ'.F b) → (∀ b, Cov σ rd b → w'.heap[b]? = w.heap[b]?) → ∀ (i : Nat) c (u : Value), cs'[i]? = some c → us[i]? = some u → V σ' h' w' c u := by
      intro cs cs' rd' us hsz hl hsub hvs
      obtain ⟨k1, k2, k3, k4⟩ := lst (us := fun i => us.getD i undef) hl hsub fun i c hi => by
        have hlt : i < us.size := by rw [hsz]; exact (List.getElem?_eq_some_iff.1 hi).1
        refine hvs i c _ hi ?_
        simp [Array.getD, hlt]
      refine ⟨by rw [hsz, k1], k2, k3, fun σ' h' w' hF hw i c u hi hu => ?_⟩
      have := k4 σ' h' w' hF hw i c hi
      have hlt := (Array.getElem?_eq_some_iff.1 hu).1
      have he := (Array.getElem?_eq_some_iff.1 hu).2
      simpa [Array.getD, hlt, he] using this
    unfold frzStep at hz
    split at hz
    · cases hz; cases hv; exact ⟨.lit _, id, fun _ _ _ _ _ => .lit _⟩
    · cases hz; cases hv; exact ⟨.z0, id, fun _ _ _ _ _ => .z0⟩
    · cases hz
      exact ⟨hv.fz_rptr, id, fun σ' h' w' hF hw => V.frozen (fun b hb => hF b (.inl hb)) (fun b hb => hw b (.inl hb)) hv hv.fz_rptr⟩
    · cases hz
      exact ⟨hv.fz_rslc, id, fun σ' h' w' hF hw => V.frozen (fun b hb => hF b (.inl hb)) (fun b hb => hw b (.inl hb)) hv hv.fz_rslc⟩
    · -- a pointer
      rename_i id off st
      split at hz
      · rename_i cs hm
        split at hz
        · rename_i hst
          simp only [Option.bind_eq_bind, Option.bind_eq_some_iff, Prod.exists] at hz
          obtain ⟨cs', rd', hl, hz⟩ := hz
          cases hz
          cases hv with
          | ptrS _ _ hs => have := hs cs.length (by rw [hm]; rfl); omega
          | ptr hs ha hb =>
            rename_i b
            have hget : ∀ (i : Nat) c, (cs.drop off)[i]? = some c → ∃ u, w.cell? ⟨b, off + i, none⟩ = some u ∧ u.oneCell' = true ∧ V σ h w c u := fun i c hi => by
              rw [List.getElem?_drop] at hi
              exact hr.load hm hb hi
            obtain ⟨_, _, _, _, _, hb', _, _, _, h4, _⟩ := hr.cells hm
            obtain ⟨k1, k2, k3, k4⟩ := lst (us := fun i => (w.cell? ⟨b, off + i, none⟩).getD undef) hl (fun l hl => List.mem_cons_of_mem _ hl) fun i c hi => by
              obtain ⟨u, j1, _, j3⟩ := hget i c hi
              rw [j1]; exact j3
            refine ⟨.rptr k2, fun _ => rfl, fun σ' h' w' hF hw => ?_⟩
            have cb : Cov σ (.blk id :: rd') b := .inr ⟨.blk id, by simp, hb⟩
            refine .rptr (fun i => (w.cell? ⟨b, off + i, none⟩).getD undef) rfl (hF b cb) (k3 fun c hc => h4 c (List.mem_of_mem_drop hc)) (fun i c hi => ?_) (fun i c hi => k4 σ' h' w' hF hw i c hi) k2
            have hlt : i < (cs.drop off).length := by rw [← k1]; exact (List.getElem?_eq_some_iff.1 hi).1
            obtain ⟨u, j1, _, _⟩ := hget i _ (List.getElem?_eq_getElem hlt)
            rw [cell?_congr (w := w) (by rw [block_add]; exact hw b cb), add_of, j1]
            rfl
        · cases hz
      · cases hz
    · -- a slice
      rename_i id off len esz st
      split at hz
      · rename_i cs hm
        split at hz
        · rename_i hst
          obtain ⟨hst, hle, hpos⟩ := hst
          simp only [Option.bind_eq_bind, Option.bind_eq_some_iff, Prod.exists] at hz
          obtain ⟨cs', rd', hl, hz⟩ := hz
          cases hz
          cases hv with
          | slcS _ _ hs => have := hs cs.length (by rw [hm]; rfl); omega
          | slc hs ha hb hheap hlc hcap =>
            rename_i b cap arr e f
            have hlen : ((cs.drop off).take (len * esz)).length = len * esz := by simp; omega
            have hget : ∀ (i : Nat) c, ((cs.drop off).take (len * esz))[i]? = some c → ∃ u, w.cell? ⟨b, off + i, none⟩ = some u ∧ u.oneCell' = true ∧ V σ h w c u := fun i c hi => by
              have hlt : i < len * esz := by rw [← hlen]; exact (List.getElem?_eq_some_iff.1 hi).1
              rw [List.getElem?_take_of_lt hlt, List.getElem?_drop] at hi
              exact hr.load hm hb hi
            obtain ⟨_, _, _, _, _, hb', _, _, _, h4, _⟩ := hr.cells hm
            obtain ⟨k1, k2, k3, k4⟩ := lst (us := fun i => (w.cell? ⟨b, off + i, none⟩).getD undef) hl (fun l hl => List.mem_cons_of_mem _ hl) fun i c hi => by
              obtain ⟨u, j1, _, j3⟩ := hget i c hi
              rw [j1]; exact j3
            have one' := k3 fun c hc => h4 c (List.mem_of_mem_drop (List.mem_of_mem_take hc))
            rw [hlen] at k1
            have mem : ∀ x ∈ chunk esz len cs', x.length = esz ∧ ∀ c ∈ x, c ∈ cs' := fun x hx => by
              obtain ⟨i, hi, he⟩ := List.mem_iff_getElem.1 hx
              have := getElem?_chunk esz len cs' i
              rw [List.getElem?_eq_getElem hi, he] at this
              rw [length_chunk] at hi
              rw [if_pos hi] at this
              cases this
              refine ⟨?_, fun c hc => List.mem_of_mem_drop (List.mem_of_mem_take hc)⟩
              have : (i + 1) * esz ≤ len * esz := Nat.mul_le_mul_right _ hi
              rw [Nat.succ_mul] at this
              simp
              omega
            have fz : ∀ x ∈ chunk esz len cs', ∀ c ∈ x, Fz c := fun x hx c hc => k2 c ((mem x hx).2 c hc)
            refine ⟨.rslc fz, fun _ => rfl, fun σ' h' w' hF hw => ?_⟩
            have cb : Cov σ (.blk id :: rd') b := .inr ⟨.blk id, by simp, hb⟩
            have hcl : (chunk esz len cs').length = len := length_chunk _ _ _
            have get2 : ∀ (i : Nat) x, (chunk esz len cs')[i]? = some x → ∀ (j : Nat) c, x[j]? = some c → cs'[i * esz + j]? = some c ∧ i * esz + j < len * esz := fun i x hx j c hj => by
              rw [getElem?_chunk] at hx
              split at hx
              · rename_i hi
                cases hx
                have hjl : j < esz := by
                  have := (List.getElem?_eq_some_iff.1 hj).1
                  simp at this
                  omega
                rw [List.getElem?_take_of_lt hjl, List.getElem?_drop] at hj
                refine ⟨hj, ?_⟩
                rw [← k1]
                exact (List.getElem?_eq_some_iff.1 hj).1
              · cases hx
            have key : V σ' h' w' (.rslc esz (chunk esz len cs')) (.slice (some ⟨b, off, none⟩) (chunk esz len cs').length cap) := by
              refine .rslc (fun i j => (w.cell? ⟨b, off + (i * esz + j), none⟩).getD undef) rfl (hF b cb) (fun x hx => ⟨(mem x hx).1, fun c hc => one' c ((mem x hx).2 c hc)⟩) (by rw [hcl]; exact hlc) (fun i x hx j c hj => ?_) (fun i x hx j c hj => ?_) fz
              · obtain ⟨g1, g2⟩ := get2 i x hx j c hj
                obtain ⟨u, j1, _, _⟩ := hget (i * esz + j) _ (List.getElem?_eq_getElem (by rw [hlen]; exact g2))
                rw [cell?_congr (w := w) (by rw [block_add]; exact hw b cb), add_of, j1]
                rfl
              · obtain ⟨g1, g2⟩ := get2 i x hx j c hj
                exact k4 σ' h' w' hF hw _ c g1
            rw [hcl] at key
            exact key
        · cases hz
      · cases hz
    · -- a function
      simp only [Option.bind_eq_bind, Option.bind_eq_some_iff, Prod.exists] at hz
      obtain ⟨xs', r, hx, ys', r', hy, hz⟩ := hz
      cases hz
      cases hv with
      | fn sx sy v1 v2 =>
        obtain ⟨k1, k2, _, k4⟩ := lstA sx hx (fun l hl => by simp [hl]) v1
        obtain ⟨j1, j2, _, j4⟩ := lstA sy hy (fun l hl => by simp [hl]) v2
        exact ⟨.fn k2 j2, fun _ => rfl, fun σ' h' w' hF hw => .fn k1 j1 (k4 σ' h' w' hF hw) (j4 σ' h' w' hF hw)⟩
    · -- an interface value
      simp only [Option.bind_eq_bind, Option.bind_eq_some_iff, Prod.exists] at hz
      obtain ⟨v', r, hx, hz⟩ := hz
      cases hz
      cases hv with
      | ifc hv =>
        obtain ⟨k1, _, k3⟩ := ih hx hv
        exact ⟨.ifc k1, fun _ => rfl, fun σ' h' w' hF hw => .ifc (k3 σ' h' w' hF hw)⟩
    · -- a value of several cells
      simp only [Option.bind_eq_bind, Option.bind_eq_some_iff, Prod.exists] at hz
      obtain ⟨cs', r, hx, hz⟩ := hz
      cases hz
      cases hv with
      | agg hl h1 hv =>
        obtain ⟨k1, k2, k3, k4⟩ := lstA hl hx (fun l hl => hl) hv
        exact ⟨.agg k2, fun h => by simp [AV.one] at h, fun σ' h' w' hF hw => .agg k1 (k3 h1) (k4 σ' h' w' hF hw)⟩
    · -- several results
      simp only [Option.bind_eq_bind, Option.bind_eq_some_iff, Prod.exists] at hz
      obtain ⟨cs', r, hx, hz⟩ := hz
      cases hz
      cases hv with
      | tup hl hv =>
        obtain ⟨k1, k2, k3, k4⟩ := lstA hl hx (fun l hl => hl) hv
        exact ⟨.tup k2, fun h => by simp [AV.one] at h, fun σ' h' w' hF hw => .tup k1 (k4 σ' h' w' hF hw)⟩
    · cases hz

/-- The blocks that it takes. -/
def CovN (σ : Sim) (rd : List Loc) (b : Nat) : Prop := ∃ l ∈ rd, σ.ρ l = some b

theorem frzN_sound (hr : RH σ h w) : ∀ (n : Nat) {c c' : AV} {rd : List Loc} {u : Value}, frzN n h.m c = some (c', rd) → V σ h w c u →
    Fz c' ∧ (c.one = true → c'.one = true) ∧ ∀ (σ' : Sim) (h' : Hp) (w' : World), (∀ b, CovN σ rd b → σ'.F b) → (∀ b, CovN σ rd b → w'.heap[b]? = w.heap[b]?) → V σ' h' w' c' u := by
  intro n
  induction n with
  | zero => intro c c' rd u hz; cases hz
  | succ n ih =>
    intro c c' rd u hz hv
    simp only [frzN] at hz
    -- lists of values
    have lst : ∀ {cs cs' : List AV} {rd' : List Loc} {us : Nat → Value}, frzL (frzN n h.m) cs = some (cs', rd') → (∀ l ∈ rd', l ∈ rd) → (∀ (i : Nat) c, cs[i]? = some c → V σ h w c (us i)) →
        cs'.length = cs.length ∧ (∀ c ∈ cs', Fz c) ∧ ((∀ c ∈ cs, c.one = true) → ∀ c ∈ cs', c.one = true) ∧
        ∀ (σ' : Sim) (h' : Hp) (w' : World), (∀ b, CovN σ rd b → σ'.F b) → (∀ b, CovN σ rd b → w'.heap[b]? = w.heap[b]?) → ∀ (i : Nat) c, cs'[i]? = some c → V σ' h' w' c (us i) := by
      intro cs cs' rd' us hl hsub hvs
      have hsp := frzL_spec hl
      refine ⟨hsp.1, fun c hc => ?_, fun h1 c hc => ?_, fun σ' h' w' hF hw i c hi => ?_⟩
      · obtain ⟨i, c0, r, k1, _, k3, _⟩ := frzL_mem hl hc
        exact (ih k3 (hvs i c0 k1)).1
      · obtain ⟨i, c0, r, k1, _, k3, _⟩ := frzL_mem hl hc
        exact (ih k3 (hvs i c0 k1)).2.1 (h1 c0 (List.mem_of_getElem? k1))
      · have hlt : i < cs.length := by rw [← hsp.1]; exact (List.getElem?_eq_some_iff.1 hi).1
        obtain ⟨c2, r, k1, k2, k3⟩ := hsp.2 i cs[i] (List.getElem?_eq_getElem hlt)
        rw [hi] at k1
        cases k1
        have cov : ∀ b, CovN σ r b → CovN σ rd b := fun b ⟨l, h1, h2⟩ => ⟨l, hsub l (k3 l h1), h2⟩
        exact (ih k2 (hvs i _ (List.getElem?_eq_getElem hlt))).2.2 σ' h' w' (fun b hb => hF b (cov b hb)) (fun b hb => hw b (cov b hb))
    have lstA : ∀ {cs cs' : List AV} {rd' : List Loc} {us : Array Value}, us.size = cs.length → frzL (frzN n h.m) cs = some (cs', rd') → (∀ l ∈ rd', l ∈ rd) → (∀ (i : Nat) c (u : Value), cs[i]? = some c → us[i]? = some u → V σ h w c u) →
        us.size = cs'.length ∧ (∀ c ∈ cs', Fz c) ∧ ((∀ c ∈ cs, c.one = true) → ∀ c ∈ cs', c.one = true) ∧
        ∀ (σ' : Sim) (h' : Hp) (w' : World), (∀ b, CovN σ rd b → σ'.F b) → (∀ b, CovN σ rd b → w'.heap[b]? = w.heap[b]?) → ∀ (i : Nat) c (u : Value), cs'[i]? = some c → us[i]? = some u → V σ' h' w' c u := by
      intro cs cs' rd' us hsz hl hsub hvs
      obtain ⟨k1, k2, k3, k4⟩ := lst (us := fun i => us.getD i undef) hl hsub fun i c hi => by
        have hlt : i < us.size := by rw [hsz]; exact (List.getElem?_eq_some_iff.1 hi).1
        refine hvs i c _ hi ?_
        simp [Array.getD, hlt]
      refine ⟨by rw [hsz, k1], k2, k3, fun σ' h' w' hF hw i c u hi hu => ?_⟩
      have := k4 σ' h' w' hF hw i c hi
      have hlt := (Array.getElem?_eq_some_iff.1 hu).1
      have he := (Array.getElem?_eq_some_iff.1 hu).2
      simpa [Array.getD, hlt, he] using this
    unfold frzStepN at hz
    split at hz
    · cases hz; cases hv; exact ⟨.lit _, id, fun _ _ _ _ _ => .lit _⟩
    · cases hz; cases hv; exact ⟨.z0, id, fun _ _ _ _ _ => .z0⟩
    · cases hz
    · rename_i e es
      split at hz
      · rename_i hemp
        cases hz
        have : es = [] := by simpa using hemp
        subst this
        refine ⟨hv.fz_rslc, id, fun σ' h' w' hF hw => ?_⟩
        cases hv with
        | rslc vs hsp hF2 h1 hlc hc hv hz => exact .rslc0
        | rslc0 => exact .rslc0
      · cases hz
    · -- a pointer
      rename_i id off st
      split at hz
      · rename_i cs hm
        split at hz
        · rename_i hst
          simp only [Option.bind_eq_bind, Option.bind_eq_some_iff, Prod.exists] at hz
          obtain ⟨cs', rd', hl, hz⟩ := hz
          cases hz
          cases hv with
          | ptrS _ _ hs => have := hs cs.length (by rw [hm]; rfl); omega
          | ptr hs ha hb =>
            rename_i b
            have hget : ∀ (i : Nat) c, (cs.drop off)[i]? = some c → ∃ u, w.cell? ⟨b, off + i, none⟩ = some u ∧ u.oneCell' = true ∧ V σ h w c u := fun i c hi => by
              rw [List.getElem?_drop] at hi
              exact hr.load hm hb hi
            obtain ⟨_, _, _, _, _, hb', _, _, _, h4, _⟩ := hr.cells hm
            obtain ⟨k1, k2, k3, k4⟩ := lst (us := fun i => (w.cell? ⟨b, off + i, none⟩).getD undef) hl (fun l hl => List.mem_cons_of_mem _ hl) fun i c hi => by
              obtain ⟨u, j1, _, j3⟩ := hget i c hi
              rw [j1]; exact j3
            refine ⟨.rptr k2, fun _ => rfl, fun σ' h' w' hF hw => ?_⟩
            have cb : CovN σ (.blk id :: rd') b := ⟨.blk id, by simp, hb⟩
            refine .rptr (fun i => (w.cell? ⟨b, off + i, none⟩).getD undef) rfl (hF b cb) (k3 fun c hc => h4 c (List.mem_of_mem_drop hc)) (fun i c hi => ?_) (fun i c hi => k4 σ' h' w' hF hw i c hi) k2
            have hlt : i < (cs.drop off).length := by rw [← k1]; exact (List.getElem?_eq_some_iff.1 hi).1
            obtain ⟨u, j1, _, _⟩ := hget i _ (List.getElem?_eq_getElem hlt)
            rw [cell?_congr (w := w) (by rw [block_add]; exact hw b cb), add_of, j1]
            rfl
        · cases hz
      · cases hz
    · -- a slice
      rename_i id off len esz st
      split at hz
      · rename_i cs hm
        split at hz
        · rename_i hst
          obtain ⟨hst, hle, hpos⟩ := hst
          simp only [Option.bind_eq_bind, Option.bind_eq_some_iff, Prod.exists] at hz
          obtain ⟨cs', rd', hl, hz⟩ := hz
          cases hz
          cases hv with
          | slcS _ _ hs => have := hs cs.length (by rw [hm]; rfl); omega
          | slc hs ha hb hheap hlc hcap =>
            rename_i b cap arr e f
            have hlen : ((cs.drop off).take (len * esz)).length = len * esz := by simp; omega
            have hget : ∀ (i : Nat) c, ((cs.drop off).take (len * esz))[i]? = some c → ∃ u, w.cell? ⟨b, off + i, none⟩ = some u ∧ u.oneCell' = true ∧ V σ h w c u := fun i c hi => by
              have hlt : i < len * esz := by rw [← hlen]; exact (List.getElem?_eq_some_iff.1 hi).1
              rw [List.getElem?_take_of_lt hlt, List.getElem?_drop] at hi
              exact hr.load hm hb hi
            obtain ⟨_, _, _, _, _, hb', _, _, _, h4, _⟩ := hr.cells hm
            obtain ⟨k1, k2, k3, k4⟩ := lst (us := fun i => (w.cell? ⟨b, off + i, none⟩).getD undef) hl (fun l hl => List.mem_cons_of_mem _ hl) fun i c hi => by
              obtain ⟨u, j1, _, j3⟩ := hget i c hi
              rw [j1]; exact j3
            have one' := k3 fun c hc => h4 c (List.mem_of_mem_drop (List.mem_of_mem_take hc))
            rw [hlen] at k1
            have mem : ∀ x ∈ chunk esz len cs', x.length = esz ∧ ∀ c ∈ x, c ∈ cs' := fun x hx => by
              obtain ⟨i, hi, he⟩ := List.mem_iff_getElem.1 hx
              have := getElem?_chunk esz len cs' i
              rw [List.getElem?_eq_getElem hi, he] at this
              rw [length_chunk] at hi
              rw [if_pos hi] at this
              cases this
              refine ⟨?_, fun c hc => List.mem_of_mem_drop (List.mem_of_mem_take hc)⟩
              have : (i + 1) * esz ≤ len * esz := Nat.mul_le_mul_right _ hi
              rw [Nat.succ_mul] at this
              simp
              omega
            have fz : ∀ x ∈ chunk esz len cs', ∀ c ∈ x, Fz c := fun x hx c hc => k2 c ((mem x hx).2 c hc)
            refine ⟨.rslc fz, fun _ => rfl, fun σ' h' w' hF hw => ?_⟩
            have cb : CovN σ (.blk id :: rd') b := ⟨.blk id, by simp, hb⟩
            have hcl : (chunk esz len cs').length = len := length_chunk _ _ _
            have get2 : ∀ (i : Nat) x, (chunk esz len cs')[i]? = some x → ∀ (j : Nat) c, x[j]? = some c → cs'[i * esz + j]? = some c ∧ i * esz + j < len * esz := fun i x hx j c hj => by
              rw [getElem?_chunk] at hx
              split at hx
              · rename_i hi
                cases hx
                have hjl : j < esz := by
                  have := (List.getElem?_eq_some_iff.1 hj).1
                  simp at this
                  omega
                rw [List.getElem?_take_of_lt hjl, List.getElem?_drop] at hj
                refine ⟨hj, ?_⟩
                rw [← k1]
                exact (List.getElem?_eq_some_iff.1 hj).1
              · cases hx
            have key : V σ' h' w' (.rslc esz (chunk esz len cs')) (.slice (some ⟨b, off, none⟩) (chunk esz len cs').length cap) := by
              refine .rslc (fun i j => (w.cell? ⟨b, off + (i * esz + j), none⟩).getD undef) rfl (hF b cb) (fun x hx => ⟨(mem x hx).1, fun c hc => one' c ((mem x hx).2 c hc)⟩) (by rw [hcl]; exact hlc) (fun i x hx j c hj => ?_) (fun i x hx j c hj => ?_) fz
              · obtain ⟨g1, g2⟩ := get2 i x hx j c hj
                obtain ⟨u, j1, _, _⟩ := hget (i * esz + j) _ (List.getElem?_eq_getElem (by rw [hlen]; exact g2))
                rw [cell?_congr (w := w) (by rw [block_add]; exact hw b cb), add_of, j1]
                rfl
              · obtain ⟨g1, g2⟩ := get2 i x hx j c hj
                exact k4 σ' h' w' hF hw _ c g1
            rw [hcl] at key
            exact key
        · cases hz
      · cases hz
    · -- a function
      simp only [Option.bind_eq_bind, Option.bind_eq_some_iff, Prod.exists] at hz
      obtain ⟨xs', r, hx, ys', r', hy, hz⟩ := hz
      cases hz
      cases hv with
      | fn sx sy v1 v2 =>
        obtain ⟨k1, k2, _, k4⟩ := lstA sx hx (fun l hl => by simp [hl]) v1
        obtain ⟨j1, j2, _, j4⟩ := lstA sy hy (fun l hl => by simp [hl]) v2
        exact ⟨.fn k2 j2, fun _ => rfl, fun σ' h' w' hF hw => .fn k1 j1 (k4 σ' h' w' hF hw) (j4 σ' h' w' hF hw)⟩
    · -- an interface value
      simp only [Option.bind_eq_bind, Option.bind_eq_some_iff, Prod.exists] at hz
      obtain ⟨v', r, hx, hz⟩ := hz
      cases hz
      cases hv with
      | ifc hv =>
        obtain ⟨k1, _, k3⟩ := ih hx hv
        exact ⟨.ifc k1, fun _ => rfl, fun σ' h' w' hF hw => .ifc (k3 σ' h' w' hF hw)⟩
    · -- a value of several cells
      simp only [Option.bind_eq_bind, Option.bind_eq_some_iff, Prod.exists] at hz
      obtain ⟨cs', r, hx, hz⟩ := hz
      cases hz
      cases hv with
      | agg hl h1 hv =>
        obtain ⟨k1, k2, k3, k4⟩ := lstA hl hx (fun l hl => hl) hv
        exact ⟨.agg k2, fun h => by simp [AV.one] at h, fun σ' h' w' hF hw => .agg k1 (k3 h1) (k4 σ' h' w' hF hw)⟩
    · -- several results
      simp only [Option.bind_eq_bind, Option.bind_eq_some_iff, Prod.exists] at hz
      obtain ⟨cs', r, hx, hz⟩ := hz
      cases hz
      cases hv with
      | tup hl hv =>
        obtain ⟨k1, k2, k3, k4⟩ := lstA hl hx (fun l hl => hl) hv
        exact ⟨.tup k2, fun h => by simp [AV.one] at h, fun σ' h' w' hF hw => .tup k1 (k4 σ' h' w' hF hw)⟩
    · cases hz

theorem frzN_frz {m : Loc → AObj} : ∀ (n : Nat) {c : AV} {r : AV × List Loc}, frzN n m c = some r → frz n m c = some r := by
  intro n
  induction n with
  | zero => intro c r h; cases h
  | succ n ih =>
    intro c r h
    have lst : ∀ {cs : List AV} {r : List AV × List Loc}, frzL (frzN n m) cs = some r → frzL (frz n m) cs = some r := by
      intro cs
      induction cs with
      | nil => intro r h; exact h
      | cons c cs ihl =>
        intro r h
        simp only [frzL, Option.bind_eq_bind, Option.bind_eq_some_iff, Prod.exists] at h ⊢
        obtain ⟨c', r1, h1, cs1, r2, h2, h⟩ := h
        exact ⟨c', r1, ih h1, cs1, r2, ihl h2, h⟩
    simp only [frzN, frz] at h ⊢
    cases c with
    | lit v => exact h
    | z0 => exact h
    | rptr cs => cases h
    | rslc e es =>
      simp only [frzStepN] at h
      split at h
      · exact h
      · cases h
    | ptr id off st =>
      simp only [frzStepN, frzStep] at h ⊢
      split at h
      · split at h
        · rename_i hc
          simp only [Option.bind_eq_bind, Option.bind_eq_some_iff, Prod.exists] at h
          obtain ⟨cs', rd, h1, h⟩ := h
          rw [if_pos hc, lst h1]
          exact h
        · cases h
      · cases h
    | slc id off len esz st =>
      simp only [frzStepN, frzStep] at h ⊢
      split at h
      · split at h
        · rename_i hc
          simp only [Option.bind_eq_bind, Option.bind_eq_some_iff, Prod.exists] at h
          obtain ⟨cs', rd, h1, h⟩ := h
          rw [if_pos hc, lst h1]
          exact h
        · cases h
      · cases h
    | fn f xs ys =>
      simp only [frzStepN, frzStep, Option.bind_eq_bind, Option.bind_eq_some_iff, Prod.exists] at h ⊢
      obtain ⟨xs', r1, h1, ys', r2, h2, h⟩ := h
      exact ⟨xs', r1, lst h1, ys', r2, lst h2, h⟩
    | ifc t v =>
      simp only [frzStepN, frzStep, Option.bind_eq_bind, Option.bind_eq_some_iff, Prod.exists] at h ⊢
      obtain ⟨v', r1, h1, h⟩ := h
      exact ⟨v', r1, ih h1, h⟩
    | agg cs =>
      simp only [frzStepN, frzStep, Option.bind_eq_bind, Option.bind_eq_some_iff, Prod.exists] at h ⊢
      obtain ⟨v', r1, h1, h⟩ := h
      exact ⟨v', r1, lst h1, h⟩
    | tup cs =>
      simp only [frzStepN, frzStep, Option.bind_eq_bind, Option.bind_eq_some_iff, Prod.exists] at h ⊢
      obtain ⟨v', r1, h1, h⟩ := h
      exact ⟨v', r1, lst h1, h⟩
    | _ => cases h

/-- Is the memory of the arguments nowhere in it? -/
def noAl (m : Loc → AObj) (v : AV) : Bool := (frzN 20 m v).isSome

theorem frz_cells : ∀ (n : Nat) {m : Loc → AObj} {c c' : AV} {rd : List Loc}, frz n m c = some (c', rd) → ∀ l ∈ rd, ∃ id cs, l = .blk id ∧ m l = .cells cs := by
  intro n
  induction n with
  | zero => intro m c c' rd hz; cases hz
  | succ n ih =>
    intro m c c' rd hz
    simp only [frz] at hz
    have lst : ∀ {cs cs' : List AV} {rd' : List Loc}, frzL (frz n m) cs = some (cs', rd') → ∀ l ∈ rd', ∃ id cs, l = .blk id ∧ m l = .cells cs := by
      intro cs
      induction cs with
      | nil => intro cs' rd' h l hl; cases h; cases hl
      | cons c cs ihl =>
        intro cs' rd' h l hl
        simp only [frzL, Option.bind_eq_bind, Option.bind_eq_some_iff, Prod.exists] at h
        obtain ⟨c', r, h1, cs1, r1, h2, h⟩ := h
        cases h
        rcases List.mem_append.1 hl with hl | hl
        · exact ih h1 l hl
        · exact ihl h2 l hl
    unfold frzStep at hz
    split at hz
    · cases hz; intro l hl; cases hl
    · cases hz; intro l hl; cases hl
    · cases hz; intro l hl; cases hl
    · cases hz; intro l hl; cases hl
    · split at hz
      · rename_i cs hm
        split at hz
        · simp only [Option.bind_eq_bind, Option.bind_eq_some_iff, Prod.exists] at hz
          obtain ⟨cs', rd', hl, hz⟩ := hz
          cases hz
          intro l hl'
          rcases List.mem_cons.1 hl' with rfl | hl'
          · exact ⟨_, _, rfl, hm⟩
          · exact lst hl l hl'
        · cases hz
      · cases hz
    · split at hz
      · rename_i cs hm
        split at hz
        · simp only [Option.bind_eq_bind, Option.bind_eq_some_iff, Prod.exists] at hz
          obtain ⟨cs', rd', hl, hz⟩ := hz
          cases hz
          intro l hl'
          rcases List.mem_cons.1 hl' with rfl | hl'
          · exact ⟨_, _, rfl, hm⟩
          · exact lst hl l hl'
        · cases hz
      · cases hz
    · simp only [Option.bind_eq_bind, Option.bind_eq_some_iff, Prod.exists] at hz
      obtain ⟨xs', r, hx, ys', r', hy, hz⟩ := hz
      cases hz
      intro l hl
      rcases List.mem_append.1 hl with hl | hl
      · exact lst hx l hl
      · exact lst hy l hl
    · simp only [Option.bind_eq_bind, Option.bind_eq_some_iff, Prod.exists] at hz
      obtain ⟨v', r, hx, hz⟩ := hz
      cases hz
      exact ih hx
    · simp only [Option.bind_eq_bind, Option.bind_eq_some_iff, Prod.exists] at hz
      obtain ⟨v', r, hx, hz⟩ := hz
      cases hz
      exact lst hx
    · simp only [Option.bind_eq_bind, Option.bind_eq_some_iff, Prod.exists] at hz
      obtain ⟨v', r, hx, hz⟩ := hz
      cases hz
      exact lst hx
    · cases hz
end
end Go.Proofs.Ytmmabdpmeijgmaa.AM
