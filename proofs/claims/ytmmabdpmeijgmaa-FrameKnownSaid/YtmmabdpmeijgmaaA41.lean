/- What a call hands back, in a memory that holds nothing else. -/
import Derived.Test.YtmmabdpmeijgmaaA40
import Derived.Test.YtmmabdpmeijgmaaA38
namespace Go.Proofs.Ytmmabdpmeijgmaa.AM
open Go

/-- The blocks that a value leads to at once. -/
def idsV : Nat → AV → List Nat
  | 0, _ => []
  | n + 1, v => match v with
    | .slc id _ _ _ _ => [id]
    | .ptr id _ _ => [id]
    | .tup vs => vs.flatMap (idsV n)
    | .agg vs => vs.flatMap (idsV n)
    | .ifc _ v => idsV n v
    | _ => []

def addIds : List Nat → List Nat → List Nat
  | g, [] => g
  | g, x :: l => addIds (if g.contains x then g else g ++ [x]) l

/-- The blocks that a value leads to, in the order in which they are met. -/
def reachIds (H : List AObj) : Nat → List Nat → List Nat → List Nat
  | 0, _, g => g
  | n + 1, l, g =>
    let g' := addIds g l
    reachIds H n (l.flatMap fun (i : Nat) => match H[i]? with
      | some (.cells cs) => cs.flatMap (idsV 5)
      | _ => []) g'

def idxIn : List Nat → Nat → Nat → Option Nat
  | [], _, _ => none
  | x :: g, k, id => match Nat.beq x id with
    | true => some k
    | false => idxIn g (k + 1) id

def renV (f : Nat → Option Nat) : Nat → AV → Option AV
  | 0, _ => none
  | n + 1, v => match v with
    | .lit u => some (.lit u)
    | .slc id off len esz st => (f id).map fun i => .slc i off len esz st
    | .ptr id off st => (f id).map fun i => .ptr i off st
    | .rslc k es => some (.rslc k es)
    | .rptr cs => some (.rptr cs)
    | .z0 => some .z0
    | .tup vs => (vs.mapM (renV f n)).map .tup
    | .agg vs => (vs.mapM (renV f n)).map .agg
    | .ifc t v => (renV f n v).map (.ifc t)
    | _ => none

def renO (f : Nat → Option Nat) : Option AObj → Option AObj
  | some (.cells cs) => (cs.mapM (renV f 6)).map .cells
  | _ => none

/-- A value and its memory, anew. -/
def canon (v : AV) (H : List AObj) : Option (AV × List AObj) :=
  let g := reachIds H 4 (idsV 5 v) []
  match renV (idxIn g 0) 6 v, g.mapM (fun o => renO (idxIn g 0) H[o]?) with
  | some v', some H' => if g.Nodup then some (v', H') else none
  | _, _ => none

section
variable {σ σ' σ2 : Sim} {h h' h2 : Hp} {w w' w2 : World} {P : Program} {E : Env} {O : Oracle} {tmps tmps' : List AV} {H H' H2 : List AObj} {A A2 : Nat → Prop} {a : Act} {s s' : FS} {ro : Option Nat} {lo : Nat}

theorem idxIn_spec : ∀ {g : List Nat} {k id i : Nat}, idxIn g k id = some i → k ≤ i ∧ g[i - k]? = some id
  | [], k, id, i, h => by cases h
  | x :: g, k, id, i, h => by
    unfold idxIn at h
    split at h
    · rename_i hb
      cases h
      exact ⟨Nat.le_refl _, by rw [Nat.sub_self]; simp [Nat.eq_of_beq_eq_true hb]⟩
    · obtain ⟨h1, h2⟩ := idxIn_spec h
      refine ⟨by omega, ?_⟩
      rw [show i - k = (i - (k + 1)) + 1 from by omega]
      simpa using h2

theorem mapM_spec {α β : Type} {f : α → Option β} {l : List α} {r : List β} (h : l.mapM f = some r) : r.length = l.length ∧ ∀ (i : Nat) x, l[i]? = some x → ∃ y, r[i]? = some y ∧ f x = some y := mapM_get h

theorem renV_one {f : Nat → Option Nat} {n : Nat} {c c' : AV} (h : renV f n c = some c') (h1 : c.one = true) : c'.one = true := by
  cases n with
  | zero => cases h
  | succ n =>
    cases c <;> simp only [renV] at h <;> first
      | (cases h; done)
      | (cases h; exact h1)
      | (simp only [Option.map_eq_some_iff] at h; obtain ⟨_, _, rfl⟩ := h; first | rfl | cases h1)

theorem renV_sound {f : Nat → Option Nat} (hw : w' = w) (hF : ∀ b, σ.F b → σ'.F b) (hf : ∀ id i, f id = some i → σ'.ρ (.blk i) = σ.ρ (.blk id) ∧ (h'.m (.blk i)).stamp = (h.m (.blk id)).stamp ∧ h'.al i) : ∀ (n : Nat) {c c' : AV} {u : Value}, renV f n c = some c' → V σ h w c u → V σ' h' w' c' u := by
  subst hw
  intro n
  induction n with
  | zero => intro c c' u h; cases h
  | succ n ih =>
    intro c c' u hc hv
    have lst : ∀ {cs cs' : List AV} {us : Array Value}, cs.mapM (renV f n) = some cs' → us.size = cs.length → (∀ (i : Nat) c (u : Value), cs[i]? = some c → us[i]? = some u → V σ h w' c u) →
        us.size = cs'.length ∧ ∀ (i : Nat) c (u : Value), cs'[i]? = some c → us[i]? = some u → V σ' h' w' c u := fun {cs cs' us} hm hl hv => by
      obtain ⟨h1, h2⟩ := mapM_spec hm
      refine ⟨by omega, fun i c u hi hu => ?_⟩
      have hlt : i < cs.length := by rw [← h1]; exact (List.getElem?_eq_some_iff.1 hi).1
      obtain ⟨y, h3, h4⟩ := h2 i cs[i] (List.getElem?_eq_getElem hlt)
      rw [hi] at h3
      cases h3
      exact ih h4 (hv i cs[i] u (List.getElem?_eq_getElem hlt) hu)
    cases hv <;> simp only [renV] at hc <;> (try (cases hc; done))
    case lit => cases hc; exact .lit _
    case ptr hs ha hr =>
      simp only [Option.map_eq_some_iff] at hc
      obtain ⟨i, hi, rfl⟩ := hc
      obtain ⟨h1, h2, h3⟩ := hf _ _ hi
      exact .ptr (h2.trans hs) h3 (h1.trans hr)
    case ptrS ha hs hu =>
      simp only [Option.map_eq_some_iff] at hc
      obtain ⟨i, hi, rfl⟩ := hc
      obtain ⟨h1, h2, h3⟩ := hf _ _ hi
      exact .ptrS hu h3 fun L hL => hs L (h2.symm.trans hL)
    case rptr vs hsp hF' h1 hc' hv' hz =>
      cases hc
      exact V.frozen hF (fun _ _ => rfl) (.rptr vs hsp hF' h1 hc' hv' hz) (.rptr hz)
    case slc hs ha hr hb hlc hcap =>
      simp only [Option.map_eq_some_iff] at hc
      obtain ⟨i, hi, rfl⟩ := hc
      obtain ⟨h1, h2, h3⟩ := hf _ _ hi
      exact .slc (h2.trans hs) h3 (h1.trans hr) hb hlc hcap
    case slcS ha hs hu =>
      simp only [Option.map_eq_some_iff] at hc
      obtain ⟨i, hi, rfl⟩ := hc
      obtain ⟨h1, h2, h3⟩ := hf _ _ hi
      exact .slcS hu h3 fun L hL => hs L (h2.symm.trans hL)
    case rslc vs hsp hF' h1 hlc hc' hv' hz =>
      cases hc
      exact V.frozen hF (fun _ _ => rfl) (.rslc vs hsp hF' h1 hlc hc' hv' hz) (.rslc hz)
    case rslc0 => cases hc; exact .rslc0
    case z0 => cases hc; exact .z0
    case ifc t v u hv =>
      simp only [Option.map_eq_some_iff] at hc
      obtain ⟨v', hi, rfl⟩ := hc
      exact .ifc (ih hi hv)
    case agg hl h1 hv =>
      simp only [Option.map_eq_some_iff] at hc
      obtain ⟨v', hi, rfl⟩ := hc
      obtain ⟨k1, k2⟩ := lst hi hl hv
      refine .agg k1 (fun c hc => ?_) k2
      obtain ⟨m1, m2⟩ := mapM_spec hi
      obtain ⟨i, hi', rfl⟩ := List.mem_iff_getElem.1 hc
      obtain ⟨y, h3, h4⟩ := m2 i _ (List.getElem?_eq_getElem (by omega))
      rw [List.getElem?_eq_getElem hi'] at h3
      cases h3
      exact renV_one h4 (h1 _ (List.getElem_mem _))
    case tup hl hv =>
      simp only [Option.map_eq_some_iff] at hc
      obtain ⟨v', hi, rfl⟩ := hc
      obtain ⟨k1, k2⟩ := lst hi hl hv
      exact .tup k1 k2

theorem lands_canon {e : Ending} {u v : AV} (hl : Lands ⟨fun _ => none, σ.F⟩ [] w (.ret u H') e w') (hz : canon u H' = some (v, H2)) : Lands ⟨fun _ => none, σ.F⟩ [] w (.ret v H2) e w' := by
  obtain ⟨x', rfl, σ2, x, hr2, hv3⟩ := hl
  unfold canon at hz
  simp only [] at hz
  generalize hg : reachIds H' 4 (idsV 5 u) [] = g at hz
  split at hz
  · rename_i v1 H1 hv1 hH1
    split at hz
    · rename_i hnd
      cases hz
      obtain ⟨m1, m2⟩ := mapM_spec hH1
      -- block i of the new memory
      have new : ∀ (i : Nat), i < H2.length → ∃ o cs cs', g[i]? = some o ∧ H'[o]? = some (.cells cs) ∧ H2[i]? = some (.cells cs') ∧ cs.mapM (renV (idxIn g 0) 6) = some cs' := fun i hi => by
        have hlt : i < g.length := by omega
        obtain ⟨y, k1, k2⟩ := m2 i g[i] (List.getElem?_eq_getElem hlt)
        unfold renO at k2
        split at k2
        · rename_i cs hcs
          simp only [Option.map_eq_some_iff] at k2
          obtain ⟨cs', k3, rfl⟩ := k2
          exact ⟨g[i], cs, cs', List.getElem?_eq_getElem hlt, hcs, k1, k3⟩
        · cases k2
      have hblk : ∀ {H : List AObj} {i : Nat} {o : AObj}, H[i]? = some o → (hp0 H).m (.blk i) = o := fun {H i o} ho => by simp [hp0, hpA, mOf, ho]
      let σ3 : Sim := ⟨fun l => match l with
        | .blk i => (g[i]?).bind fun o => σ2.ρ (.blk o)
        | .box _ => none, σ2.F⟩
      have hf : ∀ id i, idxIn g 0 id = some i → σ3.ρ (.blk i) = σ2.ρ (.blk id) ∧ ((hp0 H2).m (.blk i)).stamp = ((hp0 H').m (.blk id)).stamp ∧ (hp0 H2).al i := fun id i hi => by
        obtain ⟨_, k1⟩ := idxIn_spec hi
        rw [Nat.sub_zero] at k1
        have hlt : i < H2.length := by rw [m1]; exact (List.getElem?_eq_some_iff.1 k1).1
        obtain ⟨o, cs, cs', q1, q2, q3, q4⟩ := new i hlt
        rw [k1] at q1
        cases q1
        refine ⟨by show (g[i]?).bind _ = _; rw [k1]; rfl, ?_, hlt⟩
        rw [hblk q2, hblk q3]
        show some cs'.length = some cs.length
        rw [(mapM_spec q4).1]
      have tr : ∀ (n : Nat) {c c' : AV} {u : Value}, renV (idxIn g 0) n c = some c' → V σ2 (hp0 H') w' c u → V σ3 (hp0 H2) w' c' u := fun n => renV_sound (σ := σ2) (σ' := σ3) (h := hp0 H') (h' := hp0 H2) (w := w') (w' := w') rfl (fun _ h => h) hf n
      have alive : ∀ l, (hp0 H2).m l ≠ .dead → ∃ i, l = .blk i ∧ i < H2.length := fun l hl => by
        obtain ⟨i, rfl⟩ := alive_nil hl
        refine ⟨i, rfl, ?_⟩
        rcases Nat.lt_or_ge i H2.length with h | h
        · exact h
        · exact absurd (by simp [hp0, hpA, mOf, List.getElem?_eq_none h]) hl
      refine ⟨x', rfl, σ3, ?_, ?_, tr 6 hv1 hv3⟩
      · exact {
          os := x.os
          tape := x.tape
          output := x.output
          size := x.size
          keep := x.keep
          shape := x.shape
          al := fun id ha => absurd ha (by simp [hp0, hpA])
          same := fun id st ha => absurd ha (by simp [hp0, hpA])
          grow := fun id L' ha => absurd ha (by simp [hp0, hpA])
          frozen := x.frozen
          fresh := x.fresh
          new := fun l b hl hb => by
            obtain ⟨i, rfl, hi⟩ := alive l hl
            obtain ⟨o, cs, cs', q1, q2, q3, q4⟩ := new i hi
            have hb' : σ2.ρ (.blk o) = some b := by
              have : (g[i]?).bind (fun o => σ2.ρ (.blk o)) = some b := hb
              rw [q1] at this
              exact this
            rcases x.new (.blk o) b (by rw [hblk q2]; simp) hb' with q | ⟨q, _⟩
            · exact .inl q
            · exact absurd (hp0_nil _) q }
      · refine ⟨fun l hl => ?_, fun l l' b hl hl' hb hb' => ?_, hr2.F, fun i hi => ?_⟩
        · obtain ⟨i, rfl, hi⟩ := alive l hl
          obtain ⟨o, cs, cs', q1, q2, q3, q4⟩ := new i hi
          obtain ⟨b, ob, k1, k2, k3, k4⟩ := hr2.obj (.blk o) (by rw [hblk q2]; simp)
          refine ⟨b, ob, by show (g[i]?).bind _ = _; rw [q1]; exact k1, k2, ?_, k4⟩
          rw [hblk q2] at k3
          rw [hblk q3]
          cases ob <;> simp only [ObjRel] at k3 ⊢
          rename_i arr e ff
          obtain ⟨lo', hi'⟩ := ff
          obtain ⟨p1, p2, p3, p4⟩ := k3
          obtain ⟨n1, n2⟩ := mapM_spec q4
          have back : ∀ (j : Nat) c', cs'[j]? = some c' → ∃ c, cs[j]? = some c ∧ renV (idxIn g 0) 6 c = some c' := fun j c' hj => by
            have hlt : j < cs.length := by rw [← n1]; exact (List.getElem?_eq_some_iff.1 hj).1
            obtain ⟨y, r1, r2⟩ := n2 j cs[j] (List.getElem?_eq_getElem hlt)
            rw [hj] at r1
            cases r1
            exact ⟨cs[j], List.getElem?_eq_getElem hlt, r2⟩
          refine ⟨by omega, p2, fun c hc => ?_, fun j c hj => ?_⟩
          · obtain ⟨j, hj⟩ := List.mem_iff_getElem?.1 hc
            obtain ⟨c0, r1, r2⟩ := back j c hj
            exact renV_one r2 (p3 c0 (List.mem_of_getElem? r1))
          · obtain ⟨c0, r1, r2⟩ := back j c hj
            obtain ⟨u0, r3, r4, r5⟩ := p4 j c0 r1
            exact ⟨u0, r3, r4, tr 6 r2 r5⟩
        · obtain ⟨i, rfl, hi⟩ := alive l hl
          obtain ⟨j, rfl, hj⟩ := alive l' hl'
          obtain ⟨o, cs, cs', q1, q2, q3, q4⟩ := new i hi
          obtain ⟨o', ds, ds', r1, r2, r3, r4⟩ := new j hj
          have hb1 : (g[i]?).bind (fun o => σ2.ρ (.blk o)) = some b := hb
          have hb2 : (g[j]?).bind (fun o => σ2.ρ (.blk o)) = some b := hb'
          rw [q1] at hb1
          rw [r1] at hb2
          have := hr2.inj (.blk o) (.blk o') b (by rw [hblk q2]; simp) (by rw [hblk r2]; simp) hb1 hb2
          cases this
          have hi' := (List.getElem?_eq_some_iff.1 q1).1
          have : i = j := (List.getElem?_inj hi' hnd).1 (q1.trans r1.symm)
          rw [this]
        · obtain ⟨i', h1, h2⟩ := alive _ hi
          cases h1
          exact h2
    · cases hz
  · cases hz

theorem lands_any {e : Ending} {r : CR} (hl : Lands ⟨fun _ => none, σ.F⟩ [] w r e w') : Lands σ [] w r e w' := by
  have hx : ∀ {σ2 : Sim} {H1 : List AObj}, Ext ⟨fun _ => none, σ.F⟩ (hp0 []) w σ2 (hp0 H1) w' → Ext σ (hp0 []) w σ2 (hp0 H1) w' := fun x => {
    os := x.os
    tape := x.tape
    output := x.output
    size := x.size
    keep := fun b hb _ => x.keep b hb fun l hl => absurd (hp0_nil l) hl
    shape := x.shape
    al := x.al
    same := fun id st ha => absurd ha (by simp [hp0, hpA])
    grow := fun id L' ha => absurd ha (by simp [hp0, hpA])
    frozen := x.frozen
    fresh := fun b hb => by
      rcases x.fresh b hb with q | q | ⟨l, q, _⟩
      · exact .inl q
      · exact .inr (.inl q)
      · exact absurd (hp0_nil l) q
    new := fun l b hl hb => by
      rcases x.new l b hl hb with q | ⟨q, _⟩
      · exact .inl q
      · exact absurd (hp0_nil l) q }
  cases r with
  | ret v H' => obtain ⟨u, rfl, σ2, x, h2⟩ := hl; exact ⟨u, rfl, σ2, hx x, h2⟩
  | pan v H' => obtain ⟨u, rfl, σ2, x, h2⟩ := hl; exact ⟨u, rfl, σ2, hx x, h2⟩

theorem good_canon {f : FuncId} {args : List AV} {u v : AV} (hg : GoodC P f args [] (.ret u H')) (hz : canon u H' = some (v, H2)) : GoodC P f args [] (.ret v H2) := by
  refine ⟨hg.1, fun σ w us hr hsz hv => ?_⟩
  refine (hg.2 ⟨fun _ => none, σ.F⟩ w us (.none _ hr.F) hsz fun i c u hi hu => ?_).mono ?_
  · refine V.moved (σ := σ) (σ' := ⟨fun _ => none, σ.F⟩) (h := hp0 []) (fun id ha => ?_) (fun _ h => h) (fun id ha => ?_) (fun id ha => ha) (hv i c u hi hu)
    · exact absurd ha (by simp [hp0, hpA])
    · rfl
  · intro e w' hl
    exact lands_any (lands_canon hl hz)

/-- A function all of whose ends come to one value and one memory. -/
theorem callWC_good (hE : EnvOk P E) (hm : P.follows .mixedOrders = true) {fns : FuncId → Option Func} (hfns : FnsOk P fns) {f : FuncId} {fn : Func} {body : Code} {args : List AV} {v : AV} (hf : fns f = some fn) (hb : fn.body = some body)
    (hbody : ∀ (lo : Nat) (σ : Sim) (w : World) (a : Act), RS lo σ ⟨args ++ List.replicate (fn.ntmps - args.length) undefAV, [], []⟩ w a →
      body.wpIn (fen P none) 0 P (NPost lo σ ⟨args ++ List.replicate (fn.ntmps - args.length) undefAV, [], []⟩ w fun ex s1 => ∃ r, leaveE E fns fn ex s1 = some r ∧ ∃ u H', r = .ret u H' ∧ canon u H' = some (v, H2)) a w) : GoodC P f args [] (.ret v H2) := by
  refine ⟨hfns.eg f fn hf, fun σ w us hr hsz hv => ?_⟩
  refine (callS_good hE hm hfns hf hb hbody ⟨fun _ => none, σ.F⟩ w us (.none _ hr.F) hsz fun i c u hi hu => ?_).mono ?_
  · refine V.moved (σ := σ) (σ' := ⟨fun _ => none, σ.F⟩) (h := hp0 []) (fun id ha => ?_) (fun _ h => h) (fun id ha => ?_) (fun id ha => ha) (hv i c u hi hu)
    · exact absurd ha (by simp [hp0, hpA])
    · rfl
  · rintro e w' ⟨r, ⟨u, H', rfl, hz⟩, hl⟩
    exact lands_any (lands_canon hl hz)

theorem callMC_good {β : Type} {fin : FS → Option β} {z : β} (hE : EnvOk P E) (hO : OracleOk P O) (hm : P.follows .mixedOrders = true) {fns : FuncId → Option Func} (hfns : FnsOk P fns) {f : FuncId} {fn : Func} {args : List AV} {v : AV} {b : Code} {ti id : Nat} {l : List Code} {y : Code} (F : MapFor b ti) {kt et : TypeId} {sA s1 : FS} {es : List Ent3} {clock : Nat}
    (hf : fns f = some fn) (hb : fn.body = some (spine l (.seq (.seq (.region F.i0 F.ops false) (.block F.body.x (.loop b))) y))) (ht : P.underlying F.t = some (.map kt et))
    (hA : runL O E f false l ⟨args ++ List.replicate (fn.ntmps - args.length) undefAV, [], []⟩ = some sA) (h1 : opRun O E f false F.oa sA = some (.next s1)) (hD : s1.D = []) (hev : evT s1.tmps F.x = some (.map id)) (hH : s1.H[id]? = some (.map es clock)) (hold : ∀ e ∈ es, e.2.2 < clock) (hn : (es.map (·.2.2)).Nodup) (hlt : ti < s1.tmps.length)
    (hfin : ∀ s, fin s = some z → ∃ ex s3, execC O E f false y s = some (ex, s3) ∧ ∃ r, leaveE E fns fn ex s3 = some r ∧ ∃ u H', r = .ret u H' ∧ canon u H' = some (v, H2))
    (hR : ∀ r : Nat, Rnds O E f false F.body id (fun s => fin s = some z) es ⟨setD s1.tmps (some ti) (.lit (.pointer (some ⟨r, 0, none⟩))), s1.H, s1.D⟩) : GoodC P f args [] (.ret v H2) := by
  refine callWC_good hE hm hfns hf hb fun lo σ w a hr => ?_
  refine spine_wp hE hO hm rfl l hA hr fun σ1 a1 w1 hr1 => ?_
  refine mforC_wp (R := fun s => fin s = some z) hE hO hm rfl F.body F.hl F.ha F.hb F.ga F.gb F.hop F.hdst ht h1 hD hev hH hold hn hR hlt hr1 fun s2 h2 => ?_
  exact hfin s2 h2

/-- What a function hands back in the end, in a memory that holds nothing else. -/
def finC (O : Oracle) (E : Env) (fns : FuncId → Option Func) (f : FuncId) (fn : Func) (rd : Bool) (y : Code) (s : FS) : Option (AV × List AObj) :=
  match execC O E f rd y s with
  | some (ex, s1) => match leaveE E fns fn ex s1 with
    | some (.ret u H') => canon u H'
    | _ => none
  | none => none

theorem finC_ok {fns : FuncId → Option Func} {f : FuncId} {fn : Func} {rd : Bool} {y : Code} {v : AV} (h : finC O E fns f fn rd y s = some (v, H2)) :
    ∃ ex s3, execC O E f rd y s = some (ex, s3) ∧ ∃ r, leaveE E fns fn ex s3 = some r ∧ ∃ u H', r = .ret u H' ∧ canon u H' = some (v, H2) := by
  unfold finC at h
  split at h
  · rename_i ex s1 h1
    split at h
    · rename_i u H' h2
      exact ⟨ex, s1, h1, _, h2, u, H', rfl, h⟩
    · cases h
  · cases h

/-! ### A table of such calls -/

structure EntH where
  f : FuncId
  args : List AV
  v : AV
  H : List AObj

def nOfH : List EntH → Orc0
  | [], _, _ => none
  | e :: l, f, args => match Nat.beq e.f f with
    | true => (match eqL (eqAV 20) args.reverse e.args.reverse with
      | true => some (.ret e.v e.H)
      | false => nOfH l f args)
    | false => nOfH l f args

theorem nOfH_mem : ∀ {l : List EntH} {f : FuncId} {args : List AV} {r : CR}, nOfH l f args = some r → ∃ e ∈ l, e.f = f ∧ e.args = args ∧ r = .ret e.v e.H
  | [], f, args, r, h => by cases h
  | e :: l, f, args, r, h => by
    unfold nOfH at h
    split at h
    · rename_i hf
      split at h
      · rename_i ha
        cases h
        refine ⟨e, by simp, Nat.eq_of_beq_eq_true hf, ?_, rfl⟩
        have := eqL_sound (eqAV_sound 20) ha
        exact (List.reverse_inj.1 this).symm
      · obtain ⟨e', h1, h2⟩ := nOfH_mem h
        exact ⟨e', by simp [h1], h2⟩
    · obtain ⟨e', h1, h2⟩ := nOfH_mem h
      exact ⟨e', by simp [h1], h2⟩

def EntHOk (P : Program) (e : EntH) : Prop := GoodC P e.f e.args [] (.ret e.v e.H)

theorem nOfH_ok {l : List EntH} (h : ∀ e ∈ l, EntHOk P e) : OrcOk P (orcL (nOfH l)) := by
  intro f args H r hr
  unfold orcL at hr
  split at hr
  · obtain ⟨e, h1, rfl, rfl, rfl⟩ := nOfH_mem hr
    exact h e h1
  · cases hr

def Ent.toH (e : Ent) : EntH := ⟨e.f, e.args, e.v, []⟩

/-- What a call comes to, in a memory that holds nothing else. -/
noncomputable def cnO (r : Option CR2) : Option (AV × List AObj) :=
  match r with
  | some (.ret v H) => canon v H.l
  | _ => none

theorem call_ofN {N : Orc0} (hN : OrcOk P (orcL N)) (hm : P.follows .mixedOrders = true) {opn : FuncId → Bool} {loc : FuncId → Nat → Bool} {adp : FuncId → Bool} {n : Nat} {f : FuncId} {args : List AV} {v : AV} {H : Hm}
    (h : (run2 N (envOf P opn loc adp) (fnsOf P) n).call f args Hm.nil = some (.ret v H)) : GoodC P f args [] (.ret v H.l) := by
  have h1 := run2_call h
  have h2 := (run_le_M (N := orcL N) (E := envOf P opn loc adp) (fns := fnsOf P) n).call _ _ _ _ h1
  exact calls_of hN hm h2

theorem entH_of {N : Orc0} (hN : OrcOk P (orcL N)) (hm : P.follows .mixedOrders = true) {opn : FuncId → Bool} {loc : FuncId → Nat → Bool} {adp : FuncId → Bool} {n : Nat} {f : FuncId} {args : List AV} {v : AV}
    (h : cnO ((run2 N (envOf P opn loc adp) (fnsOf P) n).call f args Hm.nil) = some (v, H2)) : EntHOk P ⟨f, args, v, H2⟩ := by
  unfold cnO at h
  split at h
  · rename_i u H hr
    exact good_canon (call_ofN hN hm hr) h
  · cases h

theorem entZ_of {N : Orc0} (hN : OrcOk P (orcL N)) (hm : P.follows .mixedOrders = true) {opn : FuncId → Bool} {loc : FuncId → Nat → Bool} {adp : FuncId → Bool} {n : Nat} {f : FuncId} {args : List AV} {v : AV}
    (h : fzO ((run2 N (envOf P opn loc adp) (fnsOf P) n).call f args Hm.nil) = some v) : EntOk P ⟨f, args, v⟩ := by
  unfold fzO at h
  split at h
  · rename_i u H hr
    simp only [Option.map_eq_some_iff] at h
    obtain ⟨⟨v', rd⟩, hz, rfl⟩ := h
    rw [mOfH_eq] at hz
    exact good_frozen (call_ofN hN hm hr) hz
  · cases h
end
end Go.Proofs.Ytmmabdpmeijgmaa.AM
