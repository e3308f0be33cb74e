/- Operators, as equations. -/
import Derived.Test.YtmmabdpmeijgmaaA29
namespace Go.Proofs.Ytmmabdpmeijgmaa.AM
open Go

section
variable (d : Option TypeDesc) (k : IntKind) (a b : Int)
theorem bin_lit (ti : TI) (m : Loc → AObj) (t : TypeId) (op : BinOp) (x y : Value) (h : ¬ ∃ n c, x = .slice none n c) : aBinM ti m t op (.lit x) (.lit y) = (aBin2 (ti.und t) op x y).map fun v => .val (.lit v) [] := by
  have : aNilEq m (ti.und t) op (.lit x) (.lit y) = none := by
    unfold aNilEq
    repeat' split
    all_goals first | rfl | simp_all
  unfold aBinM
  rw [this]
  rfl
theorem bin_int (ti : TI) (m : Loc → AObj) (t : TypeId) (op : BinOp) (k k' : IntKind) (a b : Int) : aBinM ti m t op (.lit (.int k a)) (.lit (.int k' b)) = (aBin2 (ti.und t) op (.int k a) (.int k' b)).map fun v => .val (.lit v) [] := rfl
theorem bin_bool (ti : TI) (m : Loc → AObj) (t : TypeId) (op : BinOp) (a b : Bool) : aBinM ti m t op (.lit (.bool a)) (.lit (.bool b)) = (aBin2 (ti.und t) op (.bool a) (.bool b)).map fun v => .val (.lit v) [] := rfl
theorem bin_string (ti : TI) (m : Loc → AObj) (t : TypeId) (op : BinOp) (a b : ByteArray) : aBinM ti m t op (.lit (.string a)) (.lit (.string b)) = (aBin2 (ti.und t) op (.string a) (.string b)).map fun v => .val (.lit v) [] := rfl
theorem bin_ifc (ti : TI) (m : Loc → AObj) (t t' : TypeId) (op : BinOp) (x : AV) : aBinM ti m t op (.ifc t' x) (.lit .nilIface) = (aBin (ti.und t) op (.ifc t' x) (.lit .nilIface)).map fun v => .val (.lit v) [] := rfl
theorem bin_add : aBin2 d .add (.int k a) (.int k b) = some (.int k (k.wrap (a + b))) := by simp [aBin2]
theorem bin_sub : aBin2 d .sub (.int k a) (.int k b) = some (.int k (k.wrap (a - b))) := by simp [aBin2]
theorem bin_mul : aBin2 d .mul (.int k a) (.int k b) = some (.int k (k.wrap (a * b))) := by simp [aBin2]
theorem bin_quo : aBin2 d .quo (.int k a) (.int k b) = if b = 0 then none else some (.int k (k.wrap (a.tdiv b))) := by simp [aBin2]
theorem bin_rem : aBin2 d .rem (.int k a) (.int k b) = if b = 0 then none else some (.int k (a.tmod b)) := by simp [aBin2]
theorem bin_and : aBin2 d .and (.int k a) (.int k b) = some (.int k (bits .and k a b)) := by simp [aBin2]
theorem bin_or : aBin2 d .or (.int k a) (.int k b) = some (.int k (bits .or k a b)) := by simp [aBin2]
theorem bin_xor : aBin2 d .xor (.int k a) (.int k b) = some (.int k (bits .xor k a b)) := by simp [aBin2]
theorem bin_andNot : aBin2 d .andNot (.int k a) (.int k b) = some (.int k (bits .andNot k a b)) := by simp [aBin2]
theorem bin_eql : aBin2 d .eql (.int k a) (.int k b) = some (.bool (decide (a = b))) := by simp [aBin2, BEq.beq]
theorem bin_neq : aBin2 d .neq (.int k a) (.int k b) = some (.bool (decide (a ≠ b))) := by simp [aBin2, bne, BEq.beq]
theorem bin_lss : aBin2 d .lss (.int k a) (.int k b) = some (.bool (decide (a < b))) := by simp [aBin2]
theorem bin_leq : aBin2 d .leq (.int k a) (.int k b) = some (.bool (decide (a ≤ b))) := by simp [aBin2]
theorem bin_gtr : aBin2 d .gtr (.int k a) (.int k b) = some (.bool (decide (b < a))) := by simp [aBin2]
theorem bin_geq : aBin2 d .geq (.int k a) (.int k b) = some (.bool (decide (b ≤ a))) := by simp [aBin2]
theorem bin_shl (k' : IntKind) : aBin2 d .shl (.int k a) (.int k' b) = if b < 0 then none else some (.int k (k.wrap (a * 2 ^ (min b.toNat k.bits)))) := rfl
theorem bin_shr (k' : IntKind) : aBin2 d .shr (.int k a) (.int k' b) = if b < 0 then none else some (.int k (a.fdiv (2 ^ (min b.toNat k.bits)))) := rfl
theorem bin_beq (p q : Bool) : aBin2 (some .bool) .eql (.bool p) (.bool q) = some (.bool (p == q)) := rfl
theorem bin_bne (p q : Bool) : aBin2 (some .bool) .neq (.bool p) (.bool q) = some (.bool (!(p == q))) := rfl
theorem bin_seq (p q : ByteArray) : aBin2 d .eql (.string p) (.string q) = some (.bool (p.toList == q.toList)) := rfl
theorem bin_sne (p q : ByteArray) : aBin2 d .neq (.string p) (.string q) = some (.bool (!(p.toList == q.toList))) := rfl
theorem un_not (p : Bool) : aUn .not (.lit (.bool p)) = some (.bool (!p)) := rfl
theorem un_neg : aUn .neg (.lit (.int k a)) = some (.int k (k.wrap (0 - a))) := rfl
end
end Go.Proofs.Ytmmabdpmeijgmaa.AM
