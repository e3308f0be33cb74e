/- The machine at a program's own tables. -/
import Derived.Test.YtmmabdpmeijgmaaA24
namespace Go.Proofs.Ytmmabdpmeijgmaa.AM
open Go

def tiOf (P : Program) : TI where
  und := P.underlying
  sz := fun t => (P.info? t).map (·.size)
  bt := fun t => (P.info? t).map (·.bytes)
  zero := fun t => (P.info? t).bind (·.zero)
  sfs := fun t => match P.underlying t with
    | some (.struct fs) => if fs.toList.all (fun f => f.name != "_") && !P.stoodInHeld t && !P.eqGuardType P.depth t then some (fs.toList.map fun f => (f.type, f.offset)) else none
    | _ => none
  sar := fun t => match P.underlying t with
    | some (.array n e) => if P.eqGuardType P.depth t then none else some (n, e)
    | _ => none

theorem tiOf_ok (P : Program) : TIok P (tiOf P) where
  und := fun _ _ h => h
  sz := fun t n h => by
    simp only [tiOf, Option.map_eq_some_iff] at h
    exact h
  bt := fun t n h => by
    simp only [tiOf, Option.map_eq_some_iff] at h
    exact h
  zero := fun t v h => by
    simp only [tiOf, Option.bind_eq_some_iff] at h
    exact h
  sfs := fun t l h => by
    simp only [tiOf] at h
    split at h
    · rename_i fs hu
      split at h
      · rename_i hc
        cases h
        simp only [Bool.and_eq_true, Bool.not_eq_true', List.all_eq_true, bne_iff_ne] at hc
        have hf : P.fieldsOf t = fs := by simp [Program.fieldsOf, hu]
        rw [hf]
        exact ⟨hu, rfl, fun f hf => hc.1.1 f hf, hc.1.2, hc.2⟩
      · cases h
    · cases h
  sar := fun t n e h => by
    simp only [tiOf] at h
    split at h
    · rename_i n' e' hu
      split at h
      · cases h
      · rename_i hc
        cases h
        exact ⟨hu, by simpa using hc⟩
    · cases h

def fnsOf (P : Program) (f : FuncId) : Option Func :=
  match P.funcs[f]? with
  | some fn => if fn.body.isSome && !(fn.name == "runtime.NumGoroutine") then some fn else none
  | none => none

theorem fnsOf_ok (P : Program) : FnsOk P (fnsOf P) where
  get := fun f fn h => by
    unfold fnsOf at h
    split at h
    · rename_i fn' hf
      split at h
      · cases h; exact hf
      · cases h
    · cases h
  eg := fun f fn h us w => by
    unfold fnsOf at h
    split at h
    · rename_i fn' hf
      split at h
      · rename_i hc
        simp only [Bool.and_eq_true, Bool.not_eq_true'] at hc
        cases h
        unfold callFunc
        have hb : fn.body.isNone = false := by
          cases hb : fn.body with
          | none => rw [hb] at hc; simp at hc
          | some _ => rfl
        simp only [Sem.run_bind, program, Sem.run, Result.andThen, hf, hc.2, hb]
        rfl
      · cases h
    · cases h

def envOf (P : Program) (opn : FuncId → Bool) (loc : FuncId → Nat → Bool) (adp : FuncId → Bool := fun _ => false) : Env where
  ti := tiOf P
  opn := opn
  adp := adp
  loc := loc
  nf := P.funcs.size

theorem envOf_ok (P : Program) (opn : FuncId → Bool) (loc : FuncId → Nat → Bool) (adp : FuncId → Bool) : EnvOk P (envOf P opn loc adp) := ⟨tiOf_ok P, rfl⟩

def noOrc : Orc := fun _ _ _ => none
theorem noOrc_ok (P : Program) : OrcOk P noOrc := fun _ _ _ _ h => by cases h

theorem calls_of {P : Program} {N : Orc} (hN : OrcOk P N) (hm : P.follows .mixedOrders = true) {opn : FuncId → Bool} {loc : FuncId → Nat → Bool} {adp : FuncId → Bool} {f : FuncId} {args : List AV} {H : List AObj} {r : CR}
    (h : (M N (envOf P opn loc adp) (fnsOf P)).call f args H = some r) : GoodC P f args H r :=
  (M_ok (envOf_ok P opn loc adp) hN hm (fnsOf_ok P)).call f args H r h
end Go.Proofs.Ytmmabdpmeijgmaa.AM
