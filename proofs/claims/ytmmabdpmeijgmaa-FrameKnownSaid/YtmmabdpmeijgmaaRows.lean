/-
  No cell of these rows narrows 'for every input' (looked for: loops, veiled, ifaces, maps, wideKeys, modest, calm, conditions, laid).
  DERIVED. THE GIVEN ROWS OF THIS SEAT. 4 by the template 'for every input the law returns true; each argument reads behind the call as it read before'; 0 by the template 'total and deterministic' (their statements: YtmmabdpmeijgmaaTotals.lean).
  GIVEN WITH THE SEED: the statements are not yours to turn. If you find one false, say at which input.
  Laid BY PROGRAM, IN A SANDBOX (cutbox-rows.mjs): the forced cells as the released guide's own fill.sh prints them over the translation ba03809b8713fe37… (all of the seat's roots in one cut). By AI agents, Wed Nov 11 2026. No macro, syntax, notation, axiom, sorry.
-/
import Derived.Test.YtmmabdpmeijgmaaChecked
import GoSem.Claim
import GoSem.ClaimJoined
import GoSem.ClaimMapViews
import Derived.JoinedTies
import Derived.KernelRfl
namespace Go.Proofs.Ytmmabdpmeijgmaa
/- THE CELL 'sum', in the pinned program and in every row, IS THE sha256 OF THE DUMP (.gsa) THAT YtmmabdpmeijgmaaProg.lean LOADS. Nothing in Lean hashes anything: it is a label: what it is worth is what the hold of that sum in a sandbox is worth. -/
noncomputable def Try.pinned : Pinned := { name := "ytmmabdpmeijgmaa", sum := "ba03809b8713fe37ff630f1d8a447f1231edfc59333d5025bbd2a9265b24ffd6", checked := Try.checked }
namespace Rows
def none {H : Type} : Left H := { results := [], args := [] }

/-- 'hangfirelaw09.FrameAxis': WHATEVER THE INPUT: true; the input reads as it did. -/
def frameAxisSpec : ChangeSpec := { name := "frameAxis", fn := fun _ => fun
  | [d1, d2, d3] => { results := [.lit (.bool true)], args := [d1, d2, d3] }
  | _ => none }
def frameAxisRow : OpenClaim := { program := "ytmmabdpmeijgmaa", sum := "ba03809b8713fe37ff630f1d8a447f1231edfc59333d5025bbd2a9265b24ffd6", func := "hangfire/hangfirelaw09.FrameAxis", spec := "frameAxis", unfollowed := true, recurses := true, plainKeys := false, apart := false }
def FrameAxisSaid : Prop := frameAxisRow.holds Try.pinned (OpenSpec.ofChange frameAxisSpec)

/-- ITS FALSE NEIGHBOUR: 'it returns false'. Refute it at one input. -/
def frameAxisWrong : ChangeSpec := { name := "frameAxis", fn := fun _ => fun
  | [d1, d2, d3] => { results := [.lit (.bool false)], args := [d1, d2, d3] }
  | _ => none }
def FrameAxisWrongFalsely : Prop := frameAxisRow.holds Try.pinned (OpenSpec.ofChange frameAxisWrong)

/-- 'hangfirelaw09.FrameMerges': WHATEVER THE INPUT: true; the input reads as it did. -/
def frameMergesSpec : ChangeSpec := { name := "frameMerges", fn := fun _ => fun
  | [d1, d2] => { results := [.lit (.bool true)], args := [d1, d2] }
  | _ => none }
def frameMergesRow : OpenClaim := { program := "ytmmabdpmeijgmaa", sum := "ba03809b8713fe37ff630f1d8a447f1231edfc59333d5025bbd2a9265b24ffd6", func := "hangfire/hangfirelaw09.FrameMerges", spec := "frameMerges", unfollowed := true, recurses := true, plainKeys := false, apart := false }
def FrameMergesSaid : Prop := frameMergesRow.holds Try.pinned (OpenSpec.ofChange frameMergesSpec)

/-- ITS FALSE NEIGHBOUR: 'it returns false'. Refute it at one input. -/
def frameMergesWrong : ChangeSpec := { name := "frameMerges", fn := fun _ => fun
  | [d1, d2] => { results := [.lit (.bool false)], args := [d1, d2] }
  | _ => none }
def FrameMergesWrongFalsely : Prop := frameMergesRow.holds Try.pinned (OpenSpec.ofChange frameMergesWrong)

/-- 'hangfirelaw09.FrameReceivers': WHATEVER THE INPUT: true; the input reads as it did. -/
def frameReceiversSpec : ChangeSpec := { name := "frameReceivers", fn := fun _ => fun
  | [d1, d2, d3] => { results := [.lit (.bool true)], args := [d1, d2, d3] }
  | _ => none }
def frameReceiversRow : OpenClaim := { program := "ytmmabdpmeijgmaa", sum := "ba03809b8713fe37ff630f1d8a447f1231edfc59333d5025bbd2a9265b24ffd6", func := "hangfire/hangfirelaw09.FrameReceivers", spec := "frameReceivers", unfollowed := true, recurses := true, plainKeys := false, apart := false }
def FrameReceiversSaid : Prop := frameReceiversRow.holds Try.pinned (OpenSpec.ofChange frameReceiversSpec)

/-- ITS FALSE NEIGHBOUR: 'it returns false'. Refute it at one input. -/
def frameReceiversWrong : ChangeSpec := { name := "frameReceivers", fn := fun _ => fun
  | [d1, d2, d3] => { results := [.lit (.bool false)], args := [d1, d2, d3] }
  | _ => none }
def FrameReceiversWrongFalsely : Prop := frameReceiversRow.holds Try.pinned (OpenSpec.ofChange frameReceiversWrong)

/-- 'hangfirelaw09.FrameKnown': WHATEVER THE INPUT: true; the input reads as it did. -/
def frameKnownSpec : ChangeSpec := { name := "frameKnown", fn := fun _ => fun
  | [] => { results := [.lit (.bool true)], args := [] }
  | _ => none }
def frameKnownRow : OpenClaim := { program := "ytmmabdpmeijgmaa", sum := "ba03809b8713fe37ff630f1d8a447f1231edfc59333d5025bbd2a9265b24ffd6", func := "hangfire/hangfirelaw09.FrameKnown", spec := "frameKnown", unfollowed := true, recurses := true, plainKeys := false, apart := false }
def FrameKnownSaid : Prop := frameKnownRow.holds Try.pinned (OpenSpec.ofChange frameKnownSpec)

/-- ITS FALSE NEIGHBOUR: 'it returns false'. Refute it at one input. -/
def frameKnownWrong : ChangeSpec := { name := "frameKnown", fn := fun _ => fun
  | [] => { results := [.lit (.bool false)], args := [] }
  | _ => none }
def FrameKnownWrongFalsely : Prop := frameKnownRow.holds Try.pinned (OpenSpec.ofChange frameKnownWrong)

/- THE SECOND FORM. 'bulk': how many values and letters a reading holds, each counted each time it is reached (what is shared counts as often as it is met; a slice's spare places count too). A statement '..UptoSaid' is the law's where the arguments, and the package variables that the reading takes, are together of bulk at most 1048576: NARROWER than '..Said'. Prove '..Said' where nothing that the law and all that it calls make is longer than what came in: it says more and counts as full. Else prove '..UptoSaid'. A law counts once. -/
mutual
def uptoBulk {H : Type} : DataW H → Nat
  | .lit (.string bytes) => bytes.length + 1
  | .lit _ => 1
  | .nil => 1
  | .ptr d => uptoBulk d + 1
  | .slice elems spare => uptoBulkAll elems + uptoBulkAll spare + 1
  | .agg parts => uptoBulkAll parts + 1
  | .iface _ d => uptoBulk d + 1
  | .map entries => uptoBulkEntries entries + 1
  | .held _ => 1
def uptoBulkAll {H : Type} : List (DataW H) → Nat
  | [] => 0
  | d :: r => uptoBulk d + uptoBulkAll r
def uptoBulkEntries {H : Type} : List (Lit × DataW H) → Nat
  | [] => 0
  | x :: r => uptoBulkEntry x + uptoBulkEntries r
def uptoBulkEntry {H : Type} : Lit × DataW H → Nat
  | (.string bytes, d) => bytes.length + uptoBulk d + 1
  | (_, d) => uptoBulk d + 1
 end
def uptoSmall : (H : Type) → List (DataW H) → Bool := fun _ ds => decide (uptoBulkAll ds ≤ 1048576)
def OpenSpec.upto (s : _root_.Go.ChangeSpec) : _root_.Go.OpenSpec := { _root_.Go.OpenSpec.ofChange s with cond := some uptoSmall }

/-- 'hangfirelaw09.FrameAxis', WHERE WHAT IT READS IS OF BULK AT MOST 1048576: true; the input reads as it did. -/
def frameAxisUptoRow : OpenClaim := { program := "ytmmabdpmeijgmaa", sum := "ba03809b8713fe37ff630f1d8a447f1231edfc59333d5025bbd2a9265b24ffd6", func := "hangfire/hangfirelaw09.FrameAxis", spec := "frameAxis", unfollowed := true, recurses := true, plainKeys := false, apart := false, narrowed := true }
def FrameAxisUptoSaid : Prop := frameAxisUptoRow.holds Try.pinned (OpenSpec.upto frameAxisSpec)

/-- 'hangfirelaw09.FrameMerges', WHERE WHAT IT READS IS OF BULK AT MOST 1048576: true; the input reads as it did. -/
def frameMergesUptoRow : OpenClaim := { program := "ytmmabdpmeijgmaa", sum := "ba03809b8713fe37ff630f1d8a447f1231edfc59333d5025bbd2a9265b24ffd6", func := "hangfire/hangfirelaw09.FrameMerges", spec := "frameMerges", unfollowed := true, recurses := true, plainKeys := false, apart := false, narrowed := true }
def FrameMergesUptoSaid : Prop := frameMergesUptoRow.holds Try.pinned (OpenSpec.upto frameMergesSpec)

/-- 'hangfirelaw09.FrameReceivers', WHERE WHAT IT READS IS OF BULK AT MOST 1048576: true; the input reads as it did. -/
def frameReceiversUptoRow : OpenClaim := { program := "ytmmabdpmeijgmaa", sum := "ba03809b8713fe37ff630f1d8a447f1231edfc59333d5025bbd2a9265b24ffd6", func := "hangfire/hangfirelaw09.FrameReceivers", spec := "frameReceivers", unfollowed := true, recurses := true, plainKeys := false, apart := false, narrowed := true }
def FrameReceiversUptoSaid : Prop := frameReceiversUptoRow.holds Try.pinned (OpenSpec.upto frameReceiversSpec)

/-- 'hangfirelaw09.FrameKnown', WHERE WHAT IT READS IS OF BULK AT MOST 1048576: true; the input reads as it did. -/
def frameKnownUptoRow : OpenClaim := { program := "ytmmabdpmeijgmaa", sum := "ba03809b8713fe37ff630f1d8a447f1231edfc59333d5025bbd2a9265b24ffd6", func := "hangfire/hangfirelaw09.FrameKnown", spec := "frameKnown", unfollowed := true, recurses := true, plainKeys := false, apart := false, narrowed := true }
def FrameKnownUptoSaid : Prop := frameKnownUptoRow.holds Try.pinned (OpenSpec.upto frameKnownSpec)

end Rows
end Go.Proofs.Ytmmabdpmeijgmaa
