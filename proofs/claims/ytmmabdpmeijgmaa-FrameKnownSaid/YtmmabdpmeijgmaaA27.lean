/- From what the machine says of a law to what its row asks. -/
import Derived.Test.YtmmabdpmeijgmaaA26
import Derived.Carry
import Derived.ProofKit
namespace Go.Proofs.Ytmmabdpmeijgmaa.AM
open Go Go.RowKit

def argAV (agg : Bool) (cs : List AV) : AV := if agg then .agg cs else cs.headD .dead

section
variable {P : Program} {H : Type} {enc : TypeId × Value → H} {W W' : World}

theorem told_agg {acs : List AV} {us : Array Value} {σ : Sim} {h : Hp} (ht : Told σ h W acs us.toList) : V σ h W (.agg acs) (.agg us) :=
  .agg (by rw [ht.1]; simp) (fun c hc => by
    obtain ⟨i, hi⟩ := List.mem_iff_getElem?.1 hc
    have hlt : i < us.toList.length := by rw [← ht.1]; exact (List.getElem?_eq_some_iff.1 hi).1
    exact (ht.2 i c _ hi (List.getElem?_eq_getElem hlt)).2.1) fun i c u hi hu => (ht.2 i c u hi (by rw [Array.getElem?_toList]; exact hu)).1

/-- An argument of several cells. -/
theorem arg_agg {n : Nat} {t : TypeId} {v : Value} {d : DataW H} {p : List MemPlace} (hp : plainT P n t = true) (h1 : P.cellsOf t ≠ 1) (hs : (∃ fs, P.underlying t = some (.struct fs)) ∨ ∃ m e, P.underlying t = some (.array m e))
    (ht : DataW.Trod enc P W 0 (fun _ => true) true t v d p) : ∃ acs, WT P n t acs ∧ V (F0 W) (hp0 []) W (.agg acs) v := by
  obtain ⟨fuel, ht⟩ := ht
  obtain ⟨acs, h2, h3⟩ := trod_told n hp ht
  refine ⟨acs, h2, ?_⟩
  have hl : v.cells.toList.length = P.cellsOf t := by
    cases fuel with
    | zero => cases ht
    | succ fuel =>
      rcases hs with ⟨fs, hs⟩ | ⟨m, e, hs⟩
      · exact (trod_struct hs ht).1
      · exact (trod_array hs ht).1
  cases v with
  | agg us => exact told_agg h3
  | _ => exact absurd (hl.symm.trans rfl) h1

theorem trodAll_below (hl : laidOutB P = true) (hb : Below W.heap.size W W') : ∀ {ts : List TypeId} {vs : List Value} {ds : List (DataW H)} {ps : List MemPlace}, (∀ t ∈ ts, P.readableRec t = true ∧ t < P.types.size) →
    DataW.TrodAll enc P W 0 (fun _ => true) true ts vs ds ps → (∀ x ∈ ps, x.block < W.heap.size) → DataW.TrodAll enc P W' 0 (fun b => decide (b < W.heap.size)) true ts vs ds ps
  | [], [], [], _, _, h, _ => h
  | t :: ts, v :: vs, d :: ds, ps, hr, h, hlt => by
    obtain ⟨p, q, h1, h2, rfl⟩ := h
    exact ⟨p, q, Below.trod hl (hr t (by simp)).1 (hr t (by simp)).2 h1 hb (fun x hx => hlt x (by simp [hx])), trodAll_below hl hb (fun t ht => hr t (by simp [ht])) h2 fun x hx => hlt x (by simp [hx]), rfl⟩
  | [], _ :: _, _, _, _, h, _ => h.elim
  | [], [], _ :: _, _, _, h, _ => h.elim
  | _ :: _, [], _, _, _, h, _ => h.elim
  | _ :: _, _ :: _, [], _, _, h, _ => h.elim

theorem law_post {f : Func} {s : ChangeSpec} {args : Array Value} {ds gs : List (DataW H)} {before : List MemPlace} {tb : TypeId} (hW : DataW.Whole enc P f.params.toList s.vars false W args.toList ds gs before) (hvars : s.vars = [])
    (hfn : s.fn H (ds ++ gs) = { results := [.lit (.bool true)], args := ds }) (hres : f.resultTypes = #[tb]) (hb : P.underlying tb = some .bool) (hl : laidOutB P = true) (hr : ∀ t ∈ f.params.toList, P.readableRec t = true ∧ t < P.types.size)
    (hbw : Below W.heap.size W W') : s.post enc P f false true false false W args (.bool true) W' := by
  have hlt : ∀ p ∈ before, p.block < W.heap.size := fun p hp => hW.lt p hp
  have hW2 := hW
  obtain ⟨p, q, hA, hV, rfl, _, _⟩ := hW
  refine ⟨ds, gs, p ++ q, [], p, [], hW2, ?_, ?_, ?_, hbw.frame _, fun h => by cases h⟩
  · rw [hfn, hres]
    refine ⟨[], [], ⟨1, ?_⟩, rfl, rfl⟩
    simp [DataW.trod, hb, Value.cells]
  · rw [hfn]
    exact trodAll_below hl hbw hr hA fun x hx => hlt x (by simp [hx])
  · rw [hfn, hvars]
    rfl

theorem law_calls {f : FuncId} {fn : Func} {s : ChangeSpec} {args : Array Value} {avs : List AV} {H' : List AObj} {ds gs : List (DataW H)} {before : List MemPlace} {tb : TypeId} (hg : GoodC P f avs [] (.ret (.lit (.bool true)) H'))
    (hsz : args.size = avs.length) (hv : ∀ (i : Nat) c (u : Value), avs[i]? = some c → args[i]? = some u → V (F0 W) (hp0 []) W c u)
    (hW : DataW.Whole enc P fn.params.toList s.vars false W args.toList ds gs before) (hvars : s.vars = [])
    (hfn : s.fn H (ds ++ gs) = { results := [.lit (.bool true)], args := ds }) (hres : fn.resultTypes = #[tb]) (hb : P.underlying tb = some .bool) (hl : laidOutB P = true) (hr : ∀ t ∈ fn.params.toList, P.readableRec t = true ∧ t < P.types.size) :
    Calls P f args W fun e W' => ∃ v, e = .returned v ∧ s.post enc P fn false true false false W args v W' := by
  have h1 := hg.2 (F0 W) W args (F0_ok W) hsz hv
  refine ((h1.mono ?_).calls fun k => fen_room none k)
  rintro e W' ⟨u, rfl, σ', x, _, hu⟩
  cases hu
  refine ⟨_, rfl, law_post hW hvars hfn hres hb hl hr ?_⟩
  exact ⟨x.os, x.tape, x.output, x.size, fun k hk => x.keep k hk fun l hl' => absurd (hp0_nil l) hl'⟩
end
end Go.Proofs.Ytmmabdpmeijgmaa.AM
