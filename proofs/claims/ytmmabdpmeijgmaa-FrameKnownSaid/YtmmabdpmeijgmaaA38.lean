/- Calls whose results are known: a table that the machine on trees looks them up in. -/
import Derived.Test.YtmmabdpmeijgmaaA37
import Derived.Test.YtmmabdpmeijgmaaA27
namespace Go.Proofs.Ytmmabdpmeijgmaa.AM
open Go

def eqLit : Value → Value → Bool
  | .int k a, .int k' b => decide (k = k') && decide (a = b)
  | .bool a, .bool b => a == b
  | .string a, .string b => a.toList == b.toList
  | .slice none 0 0, .slice none 0 0 => true
  | _, _ => false

theorem eqLit_sound {a b : Value} (h : eqLit a b = true) : a = b := by
  unfold eqLit at h
  split at h
  · simp only [Bool.and_eq_true, decide_eq_true_eq] at h
    rw [h.1, h.2]
  · rw [beq_iff_eq] at h; rw [h]
  · rename_i a b
    rw [← beq_toListBytes] at h
    rw [(MapKept.bytes_beq a b).1 h]
  · rfl
  · cases h

def eqL {α : Type} (p : α → α → Bool) : List α → List α → Bool
  | [], [] => true
  | a :: l, b :: m => p a b && eqL p l m
  | _, _ => false

theorem eqL_sound {α : Type} {p : α → α → Bool} (hp : ∀ a b, p a b = true → a = b) : ∀ {l m : List α}, eqL p l m = true → l = m
  | [], [], _ => rfl
  | a :: l, b :: m, h => by
    simp only [eqL, Bool.and_eq_true] at h
    rw [hp a b h.1, eqL_sound hp h.2]
  | [], _ :: _, h => by cases h
  | _ :: _, [], h => by cases h

def eqAV : Nat → AV → AV → Bool
  | 0, _, _ => false
  | n + 1, a, b => match a, b with
    | .lit u, .lit v => eqLit u v
    | .rptr cs, .rptr ds => eqL (eqAV n) cs ds
    | .rslc e es, .rslc e' es' => Nat.beq e e' && eqL (eqL (eqAV n)) es es'
    | .agg cs, .agg ds => eqL (eqAV n) cs ds
    | .tup cs, .tup ds => eqL (eqAV n) cs ds
    | .z0, .z0 => true
    | _, _ => false

theorem eqAV_sound : ∀ (n : Nat) (a b : AV), eqAV n a b = true → a = b := by
  intro n
  induction n with
  | zero => intro a b h; cases h
  | succ n ih =>
    intro a b h
    unfold eqAV at h
    split at h
    · rw [eqLit_sound h]
    · rw [eqL_sound ih h]
    · rw [Bool.and_eq_true] at h
      rw [Nat.eq_of_beq_eq_true h.1, eqL_sound (fun _ _ h => eqL_sound ih h) h.2]
    · rw [eqL_sound ih h]
    · rw [eqL_sound ih h]
    · rfl
    · cases h

/-- An entry of the table: a function, its arguments, its result. -/
structure Ent where
  f : FuncId
  args : List AV
  v : AV

/-- The arguments are looked at from the last one on. -/
def nOf : List Ent → Orc0
  | [], _, _ => none
  | e :: l, f, args => match Nat.beq e.f f with
    | true => (match eqL (eqAV 20) args.reverse e.args.reverse with
      | true => some (.ret e.v [])
      | false => nOf l f args)
    | false => nOf l f args

theorem nOf_mem : ∀ {l : List Ent} {f : FuncId} {args : List AV} {r : CR}, nOf l f args = some r → ∃ e ∈ l, e.f = f ∧ e.args = args ∧ r = .ret e.v []
  | [], f, args, r, h => by cases h
  | e :: l, f, args, r, h => by
    unfold nOf at h
    split at h
    · rename_i hf
      split at h
      · rename_i ha
        cases h
        refine ⟨e, by simp, Nat.eq_of_beq_eq_true hf, ?_, rfl⟩
        have := eqL_sound (eqAV_sound 20) ha
        exact (List.reverse_inj.1 this).symm
      · obtain ⟨e', h1, h2⟩ := nOf_mem h
        exact ⟨e', by simp [h1], h2⟩
    · obtain ⟨e', h1, h2⟩ := nOf_mem h
      exact ⟨e', by simp [h1], h2⟩

section
variable {P : Program}

def EntOk (P : Program) (e : Ent) : Prop := GoodC P e.f e.args [] (.ret e.v [])

theorem nOf_ok {l : List Ent} (h : ∀ e ∈ l, EntOk P e) : OrcOk P (orcL (nOf l)) := by
  intro f args H r hr
  unfold orcL at hr
  split at hr
  · obtain ⟨e, h1, rfl, rfl, rfl⟩ := nOf_mem hr
    exact h e h1
  · cases hr

theorem good_frozen {f : FuncId} {args : List AV} {v v' : AV} {H' : List AObj} {rd : List Loc} (hg : GoodC P f args [] (.ret v H')) (hz : frz 20 (mOf [] H') v = some (v', rd)) : GoodC P f args [] (.ret v' []) := by
  refine ⟨hg.1, fun σ w us hr hsz hv => ?_⟩
  refine (pure_core (h := hp0 []) hr hg hz hsz fun i c u hi hu => ?_).mono ?_
  · refine V.moved (σ := σ) (σ' := ⟨fun _ => none, σ.F⟩) (h := hp0 []) (fun id ha => ?_) (fun _ h => h) (fun id ha => ?_) (fun id ha => ha) (hv i c u hi hu)
    · exact absurd ha (by simp [hp0, hpA])
    · rfl
  · intro e w' hh
    cases e with
    | returned u =>
      obtain ⟨F3, xe, hre, hvv⟩ := hh
      exact ⟨u, rfl, ⟨σ.ρ, F3⟩, xe, hre, hvv⟩
    | panicked _ => exact hh.elim
    | outgrown => exact hh.elim

/-- What a call comes to, read out. -/
noncomputable def fzO (r : Option CR2) : Option AV :=
  match r with
  | some (.ret v H) => (frz 20 (mOfH H) v).map (·.1)
  | _ => none

theorem ent_of {l : List Ent} (hl : ∀ e ∈ l, EntOk P e) (hm : P.follows .mixedOrders = true) {opn : FuncId → Bool} {loc : FuncId → Nat → Bool} {adp : FuncId → Bool} {n : Nat} {f : FuncId} {args : List AV} {v : AV}
    (h : fzO ((run2 (nOf l) (envOf P opn loc adp) (fnsOf P) n).call f args Hm.nil) = some v) : EntOk P ⟨f, args, v⟩ := by
  unfold fzO at h
  split at h
  · rename_i u H hr
    simp only [Option.map_eq_some_iff] at h
    obtain ⟨⟨v', rd⟩, hz, rfl⟩ := h
    rw [mOfH_eq] at hz
    have h1 := run2_call hr
    have h2 := (run_le_M (N := orcL (nOf l)) (E := envOf P opn loc adp) (fns := fnsOf P) n).call _ _ _ _ h1
    exact good_frozen (calls_of (nOf_ok hl) hm h2) hz
  · cases h
end
end Go.Proofs.Ytmmabdpmeijgmaa.AM
