/- The examples of the frames, as the machine sees them; how functions are called. -/
import Derived.Test.YtmmabdpmeijgmaaA38
import Derived.Test.YtmmabdpmeijgmaaProg
import Derived.KernelRfl
namespace Go.Proofs.Ytmmabdpmeijgmaa.AM
open Go Go.Proofs
set_option maxRecDepth 100000

noncomputable def EF : Env := envOf Try.prog (fun f => [43, 66, 79, 80, 81, 82, 83, 84, 85, 86, 47, 58, 75].contains f) (fun _ _ => false) (fun f => [42].contains f)
noncomputable def RF2 (l : List Ent) (f : FuncId) (args : List AV) : Option AV := fzO ((run2 (nOf l) EF (fnsOf Try.prog) 1000).call f args Hm.nil)
theorem mixedF : Try.prog.follows .mixedOrders = true := by kernel_rfl
theorem entF {l : List Ent} (hl : ∀ e ∈ l, EntOk Try.prog e) {f : FuncId} {args : List AV} {v : AV} (h : RF2 l f args = some v) : EntOk Try.prog ⟨f, args, v⟩ := ent_of hl mixedF h
theorem tcons {e : Ent} {l : List Ent} (he : EntOk Try.prog e) (hl : ∀ x ∈ l, EntOk Try.prog x) : ∀ x ∈ e :: l, EntOk Try.prog x := fun x h => by
  rcases List.mem_cons.1 h with rfl | h
  · exact he
  · exact hl x h

def I (n : Int) : AV := .lit (.int .i64 n)
def Bo (b : Bool) : AV := .lit (.bool b)
def St (l : List UInt8) : AV := .lit (.string ⟨l.toArray⟩)
def By (l : List Int) : AV := .rslc 1 (l.map fun n => [.lit (.int .u8 n)])
def ints (l : List Int) : AV := .rslc 1 (l.map fun n => [I n])
def nil0 : AV := .lit (.slice none 0 0)
def tO (l : List AV) : AV := .tup (l ++ [I 0])
/-- The format of the examples. -/
def fmt : AV := .agg [St [65], I 1, I 2, .rslc 4 [[St [97], I 0, I 2, I 0], [St [98], I 0, I 2, I 1]]]
def firstC : List Int := [65, 0, 0, 0, 156, 232]
def secondC : List Int := [65, 1, 1, 2, 184, 171]
def thirdC : List Int := [65, 1, 0, 0, 171, 216]
def tapeC : List Int := firstC ++ 7 :: secondC
def tapeOf (b : List Int) (n : Int) : AV := .agg [By b, I n]
def skyC : AV := .agg [.rslc 3 [[I 0, I 0, I 10000], [I 6000, I 0, I 8000], [I 0, I 6000, I 8000]], I 70000000,
  .rslc 7 [[I 0, I 0, I 0, I 20000, I 10, I 500, Bo false], [I 1, I 5000, I 0, I 0, I 1, I 100, Bo true]]]
def repC (n : Int) (m : Bool) (w : Int) : List AV := [I n, I 0, I 0, Bo m, ints [w]]
def repsC (l : List (List AV)) : AV := .rslc 5 l
def axs (l : List (Int × List Int)) : AV := .rslc 2 (l.map fun x => [I x.1, ints x.2])
def frC (a c w : Int) : List AV := [I a, I c, ints [w]]
end Go.Proofs.Ytmmabdpmeijgmaa.AM
