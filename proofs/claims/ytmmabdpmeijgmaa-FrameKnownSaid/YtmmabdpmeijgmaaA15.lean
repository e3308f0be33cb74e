/- Calls that are given nothing of the memory's own. -/
import Derived.Test.YtmmabdpmeijgmaaA14
namespace Go.Proofs.Ytmmabdpmeijgmaa.AM
open Go

inductive CR where
  | ret (v : AV) (H : List AObj)
  | pan (v : AV) (H : List AObj)

/-- The fence: activations of functions of the program. -/
def fen (P : Program) (ro : Option Nat) : Fence := { fn := fun f => (P.funcs[f]?).isSome = true, depth := none, alive := false, round := ro }

/-- What calls are known to do. -/
abbrev Orc := FuncId → List AV → List AObj → Option CR

def hp0 (H : List AObj) : Hp := hpA [] H (· < H.length)

def Lands (σ : Sim) (H : List AObj) (w : World) (r : CR) (e : Ending) (w' : World) : Prop :=
  match r with
  | .ret v H' => ∃ u, e = .returned u ∧ ∃ σ', Ext σ (hp0 H) w σ' (hp0 H') w' ∧ RH σ' (hp0 H') w' ∧ V σ' (hp0 H') w' v u
  | .pan v H' => ∃ u, e = .panicked [{ v := u, recovered := false }] ∧ ∃ σ', Ext σ (hp0 H) w σ' (hp0 H') w' ∧ RH σ' (hp0 H') w' ∧ V σ' (hp0 H') w' v u

/-- The call of a function, as it is told. -/
def GoodC (P : Program) (f : FuncId) (args : List AV) (H : List AObj) (r : CR) : Prop :=
  (∀ us w, (callFunc f us).run P w = .ok (.enter f us) w) ∧
  ∀ (σ : Sim) (w : World) (us : Array Value), RH σ (hp0 H) w → us.size = args.length → (∀ (i : Nat) c (u : Value), args[i]? = some c → us[i]? = some u → V σ (hp0 H) w c u) →
    CallsIn (fen P none) 0 P f us w (Lands σ H w r)

def OrcOk (P : Program) (R : Orc) : Prop := ∀ f args H r, R f args H = some r → GoodC P f args H r

def isLit : AV → Bool
  | .lit _ => true
  | _ => false

def sc1 : AV → Bool
  | .lit _ => true
  | .z0 => true
  | .agg cs => cs.all isLit
  | .ifc _ v => isLit v
  | _ => false

/-- Nothing that lies in memory is in it. -/
def isSc : AV → Bool
  | .tup vs => vs.all sc1
  | v => sc1 v

def aPure (R : Orc) (m : Loc → AObj) (f : FuncId) (args : List AV) : Option Eff := do
  let (fargs, rd) ← frzL (frz 20 m) args
  match ← R f fargs [] with
  | .ret v H' => do
    let (v', _) ← frz 20 (mOf [] H') v
    if rd.isEmpty || isSc v' || noAl (mOf [] H') v then some (.val v' rd) else none
  | .pan _ _ => none

/-- A call whose result, a row of plain cells that was made anew, becomes the memory's own. -/
def aAdopt (R : Orc) (m : Loc → AObj) (k : Nat) (f : FuncId) (args : List AV) : Option Eff := do
  let (fargs, rd) ← frzL (frz 20 m) args
  match ← R f fargs [] with
  | .ret v H' => match v with
    | .slc id 0 len esz st => match mOf [] H' (.blk id) with
      | .cells cs => if cs.length = st ∧ cs.all isLit = true then some (.nw (.slc k 0 len esz st) rd (.cells cs)) else none
      | _ => none
    | .lit (.slice none 0 0) => some (.val v rd)
    | _ => none
  | .pan _ _ => none

section
variable {σ σ' : Sim} {h h' : Hp} {w w' : World} {P : Program} {ti : TI} {tmps : List AV} {a : Act}

theorem isLit_any {c : AV} {u : Value} (hs : isLit c = true) (hv : V σ h w c u) : V σ' h' w' c u := by
  cases c <;> simp [isLit] at hs
  cases hv
  exact .lit _

theorem sc1_any {c : AV} {u : Value} (hs : sc1 c = true) (hv : V σ h w c u) : V σ' h' w' c u := by
  cases c <;> simp only [sc1] at hs <;> try (cases hs; done)
  · cases hv; exact .lit _
  · cases hv; exact .z0
  · cases hv with
    | ifc hv => exact .ifc (isLit_any hs hv)
  · cases hv with
    | agg hl h1 hv => exact .agg hl h1 fun i c u hi hu => isLit_any (List.all_eq_true.1 hs c (List.mem_of_getElem? hi)) (hv i c u hi hu)

theorem isSc_any {c : AV} {u : Value} (hs : isSc c = true) (hv : V σ h w c u) : V σ' h' w' c u := by
  cases hv with
  | tup hl hv => exact .tup hl fun i c u hi hu => sc1_any (List.all_eq_true.1 (by simpa [isSc] using hs) c (List.mem_of_getElem? hi)) (hv i c u hi hu)
  | lit => exact .lit _
  | ptr => simp [isSc, sc1] at hs
  | ptrS => simp [isSc, sc1] at hs
  | rptr => simp [isSc, sc1] at hs
  | slc => simp [isSc, sc1] at hs
  | slcS => simp [isSc, sc1] at hs
  | rslc => simp [isSc, sc1] at hs
  | rslc0 => simp [isSc, sc1] at hs
  | z0 => exact .z0
  | map => simp [isSc, sc1] at hs
  | mapS => simp [isSc, sc1] at hs
  | fn => simp [isSc, sc1] at hs
  | yld => simp [isSc, sc1] at hs
  | yldS => simp [isSc, sc1] at hs
  | ifc hv => exact sc1_any (by simpa [isSc] using hs) (.ifc hv)
  | agg hl h1 hv => exact sc1_any (by simpa [isSc] using hs) (.agg hl h1 hv)
  | dead u => simp [isSc, sc1] at hs

theorem frz_alive : ∀ (n : Nat) {m : Loc → AObj} {c c' : AV} {rd : List Loc}, frz n m c = some (c', rd) → ∀ l ∈ rd, m l ≠ .dead := by
  intro n
  induction n with
  | zero => intro m c c' rd hz; cases hz
  | succ n ih =>
    intro m c c' rd hz
    simp only [frz] at hz
    have lst : ∀ {cs cs' : List AV} {rd' : List Loc}, frzL (frz n m) cs = some (cs', rd') → ∀ l ∈ rd', m l ≠ .dead := by
      intro cs
      induction cs with
      | nil => intro cs' rd' h l hl; cases h; cases hl
      | cons c cs ihl =>
        intro cs' rd' h l hl
        simp only [frzL, Option.bind_eq_bind, Option.bind_eq_some_iff, Prod.exists] at h
        obtain ⟨c', r, h1, cs1, r1, h2, h⟩ := h
        cases h
        rcases List.mem_append.1 hl with hl | hl
        · exact ih h1 l hl
        · exact ihl h2 l hl
    unfold frzStep at hz
    split at hz
    · cases hz; intro l hl; cases hl
    · cases hz; intro l hl; cases hl
    · cases hz; intro l hl; cases hl
    · cases hz; intro l hl; cases hl
    · split at hz
      · rename_i cs hm
        split at hz
        · simp only [Option.bind_eq_bind, Option.bind_eq_some_iff, Prod.exists] at hz
          obtain ⟨cs', rd', hl, hz⟩ := hz
          cases hz
          intro l hl'
          rcases List.mem_cons.1 hl' with rfl | hl'
          · rw [hm]; simp
          · exact lst hl l hl'
        · cases hz
      · cases hz
    · split at hz
      · rename_i cs hm
        split at hz
        · simp only [Option.bind_eq_bind, Option.bind_eq_some_iff, Prod.exists] at hz
          obtain ⟨cs', rd', hl, hz⟩ := hz
          cases hz
          intro l hl'
          rcases List.mem_cons.1 hl' with rfl | hl'
          · rw [hm]; simp
          · exact lst hl l hl'
        · cases hz
      · cases hz
    · simp only [Option.bind_eq_bind, Option.bind_eq_some_iff, Prod.exists] at hz
      obtain ⟨xs', r, hx, ys', r', hy, hz⟩ := hz
      cases hz
      intro l hl
      rcases List.mem_append.1 hl with hl | hl
      · exact lst hx l hl
      · exact lst hy l hl
    · simp only [Option.bind_eq_bind, Option.bind_eq_some_iff, Prod.exists] at hz
      obtain ⟨v', r, hx, hz⟩ := hz
      cases hz
      exact ih hx
    · simp only [Option.bind_eq_bind, Option.bind_eq_some_iff, Prod.exists] at hz
      obtain ⟨v', r, hx, hz⟩ := hz
      cases hz
      exact lst hx
    · simp only [Option.bind_eq_bind, Option.bind_eq_some_iff, Prod.exists] at hz
      obtain ⟨v', r, hx, hz⟩ := hz
      cases hz
      exact lst hx
    · cases hz

theorem frzL_args (hr : RH σ h w) {args fargs : List AV} {rd : List Loc} (hf : frzL (frz 20 h.m) args = some (fargs, rd)) {us : Array Value} (hv : ∀ (i : Nat) c (u : Value), args[i]? = some c → us[i]? = some u → V σ h w c u) {σ' : Sim} {h' : Hp}
    (hF : ∀ b, Cov σ rd b → σ'.F b) : ∀ (i : Nat) c (u : Value), fargs[i]? = some c → us[i]? = some u → V σ' h' w c u := fun i c u hi hu => by
  obtain ⟨s1, s2⟩ := frzL_spec hf
  have hlt : i < args.length := by rw [← s1]; exact (List.getElem?_eq_some_iff.1 hi).1
  obtain ⟨c2, r2, k1, k2, k3⟩ := s2 i _ (List.getElem?_eq_getElem hlt)
  rw [hi] at k1
  cases k1
  exact (frz_sound hr 20 k2 (hv i _ u (List.getElem?_eq_getElem hlt) hu)).2.2 σ' h' w (fun b hb => hF b (hb.imp id fun ⟨l, q1, q2⟩ => ⟨l, k3 l q1, q2⟩)) (fun _ _ => rfl)

theorem frzL_alive {m : Loc → AObj} : ∀ {cs cs' : List AV} {rd' : List Loc}, frzL (frz 20 m) cs = some (cs', rd') → ∀ l ∈ rd', m l ≠ .dead
  | [], _, _, hh, l, hl => by cases hh; cases hl
  | c :: cs, cs', rd', hh, l, hl => by
    simp only [frzL, Option.bind_eq_bind, Option.bind_eq_some_iff, Prod.exists] at hh
    obtain ⟨c', r, g1, cs1, r1, g2, hh⟩ := hh
    cases hh
    rcases List.mem_append.1 hl with hl | hl
    · exact frz_alive 20 g1 l hl
    · exact frzL_alive g2 l hl

/-- The machine has gone on elsewhere. -/
theorem RH.away {σ1 σ2 : Sim} {h1 h2 : Hp} {F3 : Nat → Prop} (hr : RH σ h w) (hd : ∀ l, h1.m l = .dead) (x : Ext σ1 h1 w σ2 h2 w') (h3 : ∀ b, σ.F b → F3 b) (h4 : ∀ b, F3 b → σ.F b ∨ (w.heap.size ≤ b ∧ b < w'.heap.size)) :
    Ext σ h w ⟨σ.ρ, F3⟩ h w' ∧ RH ⟨σ.ρ, F3⟩ h w' := by
  have kept : ∀ b, b < w.heap.size → w'.heap[b]? = w.heap[b]? := fun b hb => x.keep b hb fun l hl => absurd (hd l) hl
  have xe : Ext σ h w ⟨σ.ρ, F3⟩ h w' := {
    os := x.os
    tape := x.tape
    output := x.output
    size := x.size
    keep := fun b hb _ => kept b hb
    shape := x.shape
    al := fun _ ha => ha
    same := fun _ _ _ _ _ => rfl
    grow := fun _ L _ hL => ⟨L, hL, Nat.le_refl _⟩
    frozen := h3
    fresh := fun b hb => (h4 b hb).imp id fun hb => .inl hb.1
    new := fun _ _ hl he => .inr ⟨hl, he⟩ }
  refine ⟨xe, fun l hl => ?_, hr.inj, fun b hb => ?_, hr.al⟩
  · obtain ⟨b, o, k1, k2, k3, k4⟩ := hr.obj l hl
    refine ⟨b, o, k1, (kept b (lt_of_heap k2)).trans k2, obj_ext xe hr k3, fun hb => ?_⟩
    rcases h4 b hb with hb | hb
    · exact k4 hb
    · have := lt_of_heap k2; omega
  · rcases h4 b hb with hb | hb
    · exact Nat.lt_of_lt_of_le (hr.F b hb) x.size
    · exact hb.2

theorem hp0_nil (l : Loc) : (hp0 []).m l = .dead := by cases l <;> simp [hp0, hpA, mOf, boxOf]

theorem RH.none (F : Nat → Prop) (hF : ∀ b, F b → b < w.heap.size) : RH ⟨fun _ => none, F⟩ (hp0 []) w :=
  ⟨fun l hl => absurd (hp0_nil l) hl, fun l _ _ hl => absurd (hp0_nil l) hl, hF, fun _ hid => absurd (hp0_nil _) hid⟩

/-- What a call that is given frozen values hands back. -/
theorem pure_core (hr : RH σ h w) {f : FuncId} {fargs : List AV} {us : Array Value} {v v' : AV} {H' : List AObj} {rd2 : List Loc} (hg : GoodC P f fargs [] (.ret v H')) (hv2 : frz 20 (mOf [] H') v = some (v', rd2)) (hsz : us.size = fargs.length)
    (argv : ∀ (i : Nat) c (u : Value), fargs[i]? = some c → us[i]? = some u → V ⟨fun _ => none, σ.F⟩ (hp0 []) w c u) :
    CallsIn (fen P none) 0 P f us w fun
      | .returned u, w' => ∃ F3, Ext σ h w ⟨σ.ρ, F3⟩ h w' ∧ RH ⟨σ.ρ, F3⟩ h w' ∧ V ⟨σ.ρ, F3⟩ h w' v' u
      | _, _ => False := by
  refine (hg.2 ⟨fun _ => Option.none, σ.F⟩ w us (.none _ hr.F) hsz argv).mono ?_
  rintro ee w' ⟨u, rfl, σ2, x, hr2, hv3⟩
  have hal := frz_alive 20 hv2
  have hz := frz_sound hr2 20 hv2 hv3
  have F2 : ∀ b, σ2.F b → σ.F b ∨ (w.heap.size ≤ b ∧ b < w'.heap.size) := fun b hb => by
    rcases x.fresh b hb with q | q | ⟨l, q, _⟩
    · exact .inl q
    · exact .inr ⟨q, hr2.F b hb⟩
    · exact absurd (hp0_nil l) q
  obtain ⟨xe, hre⟩ := RH.away (F3 := fun b => σ2.F b ∨ ∃ l, (hp0 H').m l ≠ .dead ∧ σ2.ρ l = some b) hr hp0_nil x (fun b hb => .inl (x.frozen b hb)) (fun b hb => by
    rcases hb with hb | ⟨l, q1, q2⟩
    · exact F2 b hb
    · rcases x.new l b q1 q2 with q | ⟨q, _⟩
      · obtain ⟨b', o, j1, j2, _, _⟩ := hr2.obj l q1
        rw [q2] at j1
        cases j1
        exact .inr ⟨q, lt_of_heap j2⟩
      · exact absurd (hp0_nil l) q)
  exact ⟨_, xe, hre, hz.2.2 _ h w' (fun b hb => hb.imp id fun ⟨l, q1, q2⟩ => ⟨l, hal l q1, q2⟩) (fun _ _ => rfl)⟩

/-- Everything that there is. -/
def allF (σ : Sim) (h : Hp) : Nat → Prop := fun b => σ.F b ∨ ∃ l, h.m l ≠ .dead ∧ σ.ρ l = some b

theorem allF_lt (hr : RH σ h w) : ∀ b, allF σ h b → b < w.heap.size := fun b hb => by
  rcases hb with hb | ⟨l, q1, q2⟩
  · exact hr.F b hb
  · obtain ⟨b', o, j1, j2, _, _⟩ := hr.obj l q1
    rw [q2] at j1
    cases j1
    exact lt_of_heap j2

/-- What such a call hands back, where nothing of the memory is in it. -/
theorem pure_core_sc (hr : RH σ h w) {f : FuncId} {fargs : List AV} {us : Array Value} {v v' : AV} {H' : List AObj} {rd2 : List Loc} (hg : GoodC P f fargs [] (.ret v H')) (hv2 : frz 20 (mOf [] H') v = some (v', rd2)) (hsc : isSc v' = true) (hsz : us.size = fargs.length)
    (argv : ∀ (i : Nat) c (u : Value), fargs[i]? = some c → us[i]? = some u → V ⟨fun _ => none, allF σ h⟩ (hp0 []) w c u) :
    CallsIn (fen P none) 0 P f us w fun
      | .returned u, w' => Ext σ h w σ h w' ∧ RH σ h w' ∧ V σ h w' v' u
      | _, _ => False := by
  refine (hg.2 ⟨fun _ => Option.none, allF σ h⟩ w us (.none _ (allF_lt hr)) hsz argv).mono ?_
  rintro ee w' ⟨u, rfl, σ2, x, hr2, hv3⟩
  have hz := frz_sound hr2 20 hv2 hv3
  obtain ⟨xe, hre⟩ := RH.away (F3 := σ.F) hr hp0_nil x (fun b hb => hb) (fun b hb => .inl hb)
  have h0 : V ⟨fun _ => Option.none, fun _ => True⟩ h w' v' u := hz.2.2 _ h w' (fun _ _ => trivial) (fun _ _ => rfl)
  exact ⟨xe, hre, isSc_any hsc h0⟩

/-- What such a call hands back, where it is made anew. -/
theorem pure_core_na (hr : RH σ h w) {f : FuncId} {fargs : List AV} {us : Array Value} {v v' : AV} {H' : List AObj} {rd2 : List Loc} (hg : GoodC P f fargs [] (.ret v H')) (hv2 : frz 20 (mOf [] H') v = some (v', rd2)) (hna : noAl (mOf [] H') v = true) (hsz : us.size = fargs.length)
    (argv : ∀ (i : Nat) c (u : Value), fargs[i]? = some c → us[i]? = some u → V ⟨fun _ => none, allF σ h⟩ (hp0 []) w c u) :
    CallsIn (fen P none) 0 P f us w fun
      | .returned u, w' => ∃ F3, Ext σ h w ⟨σ.ρ, F3⟩ h w' ∧ RH ⟨σ.ρ, F3⟩ h w' ∧ V ⟨σ.ρ, F3⟩ h w' v' u
      | _, _ => False := by
  refine (hg.2 ⟨fun _ => Option.none, allF σ h⟩ w us (.none _ (allF_lt hr)) hsz argv).mono ?_
  rintro ee w' ⟨u, rfl, σ2, x, hr2, hv3⟩
  obtain ⟨r, hr'⟩ := Option.isSome_iff_exists.1 hna
  have he := frzN_frz 20 hr'
  rw [hv2] at he
  cases he
  have hal := frz_alive 20 hv2
  have hz := frzN_sound hr2 20 hr' hv3
  obtain ⟨xe, hre⟩ := RH.away (F3 := fun b => σ.F b ∨ ∃ l ∈ rd2, σ2.ρ l = some b) hr hp0_nil x (fun b hb => .inl hb) (fun b hb => by
    rcases hb with hb | ⟨l, q1, q2⟩
    · exact .inl hb
    · have ha := hal l q1
      rcases x.new l b ha q2 with q | ⟨q, _⟩
      · obtain ⟨b', o, j1, j2, _, _⟩ := hr2.obj l ha
        rw [q2] at j1
        cases j1
        exact .inr ⟨q, lt_of_heap j2⟩
      · exact absurd (hp0_nil l) q)
  exact ⟨_, xe, hre, hz.2.2 _ h w' (fun b hb => .inr hb) (fun _ _ => rfl)⟩

/-- .. or where it panics. -/
theorem pure_core_pan (hr : RH σ h w) {f : FuncId} {fargs : List AV} {us : Array Value} {v : AV} {H' : List AObj} (hg : GoodC P f fargs [] (.pan v H')) (hsc : isSc v = true) (hsz : us.size = fargs.length)
    (argv : ∀ (i : Nat) c (u : Value), fargs[i]? = some c → us[i]? = some u → V ⟨fun _ => none, allF σ h⟩ (hp0 []) w c u) :
    CallsIn (fen P none) 0 P f us w fun
      | .panicked ch, w' => ∃ u, ch = [{ v := u, recovered := false }] ∧ Ext σ h w σ h w' ∧ RH σ h w' ∧ V σ h w' v u
      | _, _ => False := by
  refine (hg.2 ⟨fun _ => Option.none, allF σ h⟩ w us (.none _ (allF_lt hr)) hsz argv).mono ?_
  rintro ee w' ⟨u, rfl, σ2, x, hr2, hv3⟩
  obtain ⟨xe, hre⟩ := RH.away (F3 := σ.F) hr hp0_nil x (fun b hb => hb) (fun b hb => .inl hb)
  exact ⟨u, rfl, xe, hre, isSc_any hsc hv3⟩

theorem VA_of_V {c : AV} {u : Value} (hv : V σ h w c u) : VA σ h w c u := by
  cases c <;> first | exact hv | cases hv

theorem pure_sound {R : Orc} (hR : OrcOk P R) (hr : RH σ h w) {f : FuncId} {args : List AV} {us : Array Value} {e : Eff} (he : aPure R h.m f args = some e) (hsz : us.size = args.length)
    (hv : ∀ (i : Nat) c (u : Value), args[i]? = some c → us[i]? = some u → V σ h w c u) (k : Nat) (d : Option Nat) :
    (∀ us w, (callFunc f us).run P w = .ok (.enter f us) w) ∧ CallsIn (fen P none) 0 P f us w fun
      | .returned u, w' => e.Leaves σ h w k d u w'
      | _, _ => False := by
  unfold aPure at he
  simp only [Option.bind_eq_bind, Option.bind_eq_some_iff, Prod.exists] at he
  obtain ⟨fargs, rd, hf, r, hc, he⟩ := he
  split at he
  · rename_i v H'
    simp only [Option.bind_eq_some_iff, Prod.exists] at he
    obtain ⟨v', rd2, hv2, he⟩ := he
    have hg := hR _ _ _ _ hc
    obtain ⟨s1, _⟩ := frzL_spec hf
    split at he
    · rename_i hcond
      cases he
      refine ⟨hg.1, ?_⟩
      rw [Bool.or_eq_true, Bool.or_eq_true] at hcond
      by_cases hrd : rd = []
      · subst hrd
        refine (pure_core hr hg hv2 (by rw [hsz, s1]) (frzL_args hr hf hv fun b hb => hb.resolve_right (by simp))).mono ?_
        intro ee w' hh
        cases ee with
        | returned u =>
          obtain ⟨F3, xe, hre, hvv⟩ := hh
          exact ⟨_, xe, hre, VA_of_V hvv, fun _ => rfl⟩
        | panicked _ => exact hh.elim
        | outgrown => exact hh.elim
      · rcases hcond with hcond | hna
        case inr =>
          refine (pure_core_na hr hg hv2 hna (by rw [hsz, s1]) (frzL_args hr hf hv fun b hb => hb.imp id fun ⟨l, q1, q2⟩ => ⟨l, frzL_alive hf l q1, q2⟩)).mono ?_
          intro ee w' hh
          cases ee with
          | returned u =>
            obtain ⟨F3, xe, hre, hvv⟩ := hh
            exact ⟨_, xe, hre, VA_of_V hvv, fun _ => rfl⟩
          | panicked _ => exact hh.elim
          | outgrown => exact hh.elim
        have hsc : isSc v' = true := hcond.resolve_left (by cases rd <;> simp_all)
        refine (pure_core_sc hr hg hv2 hsc (by rw [hsz, s1]) (frzL_args hr hf hv fun b hb => hb.imp id fun ⟨l, q1, q2⟩ => ⟨l, frzL_alive hf l q1, q2⟩)).mono ?_
        intro ee w' hh
        cases ee with
        | returned u =>
          obtain ⟨xe, hre, hvv⟩ := hh
          exact ⟨_, xe, hre, VA_of_V hvv, fun _ => rfl⟩
        | panicked _ => exact hh.elim
        | outgrown => exact hh.elim
    · cases he
  · cases he

/-- A place that another memory has made becomes the memory's own. -/
theorem RH.adopt (hr : RH σ h w) (x : Ext σ h w σ h w') (hr' : RH σ h w') {k : Nat} (hk : ¬ h.al k) {b : Nat} {cs : List AV} {o : Obj} (hb : w'.heap[b]? = some o) (hfresh : w.heap.size ≤ b) (ho : ObjRel σ h w' (.cells cs) o) :
    Ext σ h w (σ.set (.blk k) b) (h.new k (.cells cs)) w' ∧ RH (σ.set (.blk k) b) (h.new k (.cells cs)) w' := by
  have hnot : ∀ l, h.m l ≠ .dead → σ.ρ l ≠ some b := fun l hl he => by
    obtain ⟨b', o', h1, h2, _, _⟩ := hr.obj l hl
    rw [he] at h1
    cases h1
    have := lt_of_heap h2
    omega
  have mk : ∀ (w0 : World), Ext σ h w0 σ h w' → (w0.heap.size ≤ b) → Ext σ h w0 (σ.set (.blk k) b) (h.new k (.cells cs)) w' := fun w0 x hf => {
    os := x.os
    tape := x.tape
    output := x.output
    size := x.size
    keep := x.keep
    shape := x.shape
    al := fun _ ha => .inl ha
    same := fun id st ha _ _ => Sim.set_other _ _ (by simp; rintro rfl; exact hk ha)
    grow := fun id L ha hL => ⟨L, by
      rw [Hp.new_other _ _ (by simp; rintro rfl; exact hk ha)] at hL
      exact hL, Nat.le_refl _⟩
    frozen := fun _ hf => hf
    fresh := fun _ hf => .inl hf
    new := fun l' b' hl' e' => by
      by_cases hid : l' = .blk k
      · subst hid
        rw [Sim.set_same] at e'
        cases e'
        exact .inl hf
      · rw [Sim.set_other _ _ hid] at e'
        rw [Hp.new_other _ _ hid] at hl'
        exact .inr ⟨hl', e'⟩ }
  have kv : ∀ {c u}, V σ h w' c u → V (σ.set (.blk k) b) (h.new k (.cells cs)) w' c u := fun hv =>
    V.moved (fun id ha => Sim.set_other _ _ (by simp; rintro rfl; exact hk ha)) (fun _ h => h) (fun id ha => Hp.new_other _ _ (by simp; rintro rfl; exact hk ha)) (fun _ ha => .inl ha) hv
  have ko : ∀ {y o}, ObjRel σ h w' y o → ObjRel (σ.set (.blk k) b) (h.new k (.cells cs)) w' y o := fun {y o} hx => by
    cases y with
    | dead => trivial
    | cells cs =>
      cases o <;> simp only [ObjRel] at hx ⊢
      rename_i arr e f
      obtain ⟨lo, hi⟩ := f
      obtain ⟨h1, h2, h3, h4⟩ := hx
      exact ⟨h1, h2, h3, fun i c hi => let ⟨u, h5, h6, h7⟩ := h4 i c hi; ⟨u, h5, h6, kv h7⟩⟩
    | map es clock =>
      cases o <;> simp only [ObjRel] at hx ⊢
      obtain ⟨h1, h2, h4⟩ := hx
      exact ⟨h1, h2, fun i c hi => let ⟨u, h5, h6, h7, h8⟩ := h4 i c hi; ⟨u, h5, kv h6, kv h7, h8⟩⟩
    | loop st pend fn tmps ps asg body =>
      cases o <;> simp only [ObjRel] at hx ⊢
      obtain ⟨h1, h2, h3, h4, h5, h6, h7, h8⟩ := hx
      exact ⟨h1, h2, h3, h4, h5, h6, h7, fun i c u hi hu => kv (h8 i c u hi hu)⟩
  refine ⟨mk w x hfresh, fun l' hl' => ?_, fun l1 l2 b' h1' h2' e1 e2 => ?_, hr'.F, fun id hid => ?_⟩
  · by_cases hid : l' = .blk k
    · subst hid
      refine ⟨b, o, Sim.set_same _ _ _, hb, ?_, fun hf => ?_⟩
      · have : (h.new k (.cells cs)).m (.blk k) = .cells cs := by simp [Hp.new]
        rw [this]
        exact ko ho
      · have := hr.F _ hf; omega
    · rw [Hp.new_other _ _ hid] at hl' ⊢
      rw [Sim.set_other _ _ hid]
      obtain ⟨b', o', h5, h6, h7, h8⟩ := hr'.obj l' hl'
      exact ⟨b', o', h5, h6, ko h7, h8⟩
  · by_cases hid1 : l1 = .blk k
    · by_cases hid2 : l2 = .blk k
      · rw [hid1, hid2]
      · subst hid1
        rw [Sim.set_same] at e1
        cases e1
        rw [Sim.set_other _ _ hid2] at e2
        rw [Hp.new_other _ _ hid2] at h2'
        exact absurd e2 (hnot l2 h2')
    · by_cases hid2 : l2 = .blk k
      · subst hid2
        rw [Sim.set_same] at e2
        cases e2
        rw [Sim.set_other _ _ hid1] at e1
        rw [Hp.new_other _ _ hid1] at h1'
        exact absurd e1 (hnot l1 h1')
      · rw [Sim.set_other _ _ hid1] at e1
        rw [Hp.new_other _ _ hid1] at h1'
        rw [Sim.set_other _ _ hid2] at e2
        rw [Hp.new_other _ _ hid2] at h2'
        exact hr'.inj l1 l2 b' h1' h2' e1 e2
  · by_cases hid' : id = k
    · exact .inr hid'
    · rw [Hp.new_other _ _ (by simpa using hid')] at hid
      exact .inl (hr'.al id hid)

theorem adopt_sound {R : Orc} (hR : OrcOk P R) (hr : RH σ h w) {k : Nat} (hk : ¬ h.al k) {f : FuncId} {args : List AV} {us : Array Value} {e : Eff} (he : aAdopt R h.m k f args = some e) (hsz : us.size = args.length)
    (hv : ∀ (i : Nat) c (u : Value), args[i]? = some c → us[i]? = some u → V σ h w c u) (d : Option Nat) :
    (∀ us w, (callFunc f us).run P w = .ok (.enter f us) w) ∧ CallsIn (fen P none) 0 P f us w fun
      | .returned u, w' => e.Leaves σ h w k d u w'
      | _, _ => False := by
  unfold aAdopt at he
  simp only [Option.bind_eq_bind, Option.bind_eq_some_iff, Prod.exists] at he
  obtain ⟨fargs, rd, hf, r, hc, he⟩ := he
  obtain ⟨s1, _⟩ := frzL_spec hf
  have hg := hR _ _ _ _ hc
  refine ⟨hg.1, ?_⟩
  have argv := frzL_args (σ' := ⟨fun _ => none, allF σ h⟩) (h' := hp0 []) hr hf hv fun b hb => hb.imp id fun ⟨l, q1, q2⟩ => ⟨l, frzL_alive hf l q1, q2⟩
  cases r with
  | pan v H' => cases he
  | ret v H' =>
    refine (hg.2 ⟨fun _ => Option.none, allF σ h⟩ w us (.none _ (allF_lt hr)) (by rw [hsz, s1]) argv).mono ?_
    rintro ee w' ⟨u, rfl, σ2, x, hr2, hv3⟩
    obtain ⟨xe, hre⟩ := RH.away (F3 := σ.F) hr hp0_nil x (fun b hb => hb) (fun b hb => .inl hb)
    simp only [] at he
    split at he
    · rename_i id len esz st
      split at he
      · rename_i cs hm
        split at he
        · rename_i hcond
          cases he
          have hm2 : (hp0 H').m (.blk id) = .cells cs := hm
          cases hv3 with
          | slcS _ _ q =>
            have := q cs.length (by rw [hm2]; rfl)
            omega
          | @slc _ _ _ _ _ b cap arr e' f' q1 q2 q3 q4 q5 q6 =>
            obtain ⟨b', arr2, e2, lo, hi, j1, j2, j3, j4, j5, j6, j7⟩ := hr2.cells hm2
            rw [q3] at j1
            cases j1
            rw [q4] at j2
            cases j2
            have hfresh : w.heap.size ≤ b := by
              rcases x.new (.blk id) b (by rw [hm2]; simp) q3 with q | ⟨q, _⟩
              · exact q
              · exact absurd (hp0_nil _) q
            have hor : ObjRel σ h w' (.cells cs) (.cells arr e' (lo, hi)) := ⟨j3, j4, j5, fun i c hi => let ⟨u, g1, g2, g3⟩ := j6 i c hi; ⟨u, g1, g2, isLit_any (List.all_eq_true.1 hcond.2 c (List.mem_of_getElem? hi)) g3⟩⟩
            obtain ⟨y1, y2⟩ := RH.adopt hr xe hre hk q4 hfresh hor
            refine ⟨σ.set (.blk k) b, y1, y2, ?_, fun s => Sim.set_other _ _ (by simp)⟩
            exact .slc (by simp [Eff.hp, AObj.stamp, hcond.1]) (.inr rfl) (Sim.set_same _ _ _) q4 q5 q6
        · cases he
      · cases he
    · cases he
      cases hv3
      exact ⟨σ, xe, hre, .lit _, fun _ => rfl⟩
    · cases he
end
end Go.Proofs.Ytmmabdpmeijgmaa.AM
