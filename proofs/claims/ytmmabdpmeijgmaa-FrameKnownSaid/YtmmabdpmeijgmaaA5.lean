/- Scalars: comparisons, arithmetic, conversions; parts of values; places of fields and elements. -/
import Derived.Test.YtmmabdpmeijgmaaA4
import Derived.Laws.Entries
namespace Go.Proofs.Ytmmabdpmeijgmaa.AM
open Go

/-- Two numbers, bools or strings. -/
def aBin2 (d : Option TypeDesc) (op : BinOp) : Value → Value → Option Value
  | .int k a, .int k' b =>
    match op with
    | .shl => if b < 0 then none else some (.int k (k.wrap (a * 2 ^ (min b.toNat k.bits))))
    | .shr => if b < 0 then none else some (.int k (a.fdiv (2 ^ (min b.toNat k.bits))))
    | op => if k = k' then
        match op with
        | .add => some (.int k (k.wrap (a + b)))
        | .sub => some (.int k (k.wrap (a - b)))
        | .mul => some (.int k (k.wrap (a * b)))
        | .quo => if b = 0 then none else some (.int k (k.wrap (a.tdiv b)))
        | .rem => if b = 0 then none else some (.int k (a.tmod b))
        | .and => some (.int k (bits .and k a b))
        | .or => some (.int k (bits .or k a b))
        | .xor => some (.int k (bits .xor k a b))
        | .andNot => some (.int k (bits .andNot k a b))
        | .eql => some (.bool (a == b))
        | .neq => some (.bool (a != b))
        | .lss => some (.bool (a < b))
        | .leq => some (.bool (a ≤ b))
        | .gtr => some (.bool (a > b))
        | .geq => some (.bool (a ≥ b))
        | _ => none
      else none
  | .bool a, .bool b =>
    match d, op with
    | some .bool, .eql => some (.bool (a == b))
    | some .bool, .neq => some (.bool (!(a == b)))
    | _, _ => none
  | .string a, .string b =>
    match op with
    | .add => if a.size + b.size ≤ 9223372036854775807 then some (.string (a ++ b)) else none
    | .eql => some (.bool (a.toList == b.toList))
    | .neq => some (.bool (!(a.toList == b.toList)))
    | .lss => some (.bool (Op.bytesLess a.toList b.toList))
    | _ => none
  | .nilIface, .nilIface =>
    match d, op with
    | some (.interface ms), .eql => if ms.size = 0 then some (.bool true) else none
    | some (.interface ms), .neq => if ms.size = 0 then some (.bool false) else none
    | _, _ => none
  | .pointer none, .pointer none =>
    match d, op with
    | some (.pointer _), .eql => some (.bool true)
    | some (.pointer _), .neq => some (.bool false)
    | _, _ => none
  | .slice none _ _, .slice none _ _ =>
    match d, op with
    | some (.slice _), .eql => some (.bool true)
    | some (.slice _), .neq => some (.bool false)
    | _, _ => none
  | _, _ => none

/-- An operation of two operands. -/
def aBin (d : Option TypeDesc) (op : BinOp) : AV → AV → Option Value
  | .lit x, .lit y => aBin2 d op x y
  | .ifc _ _, .lit .nilIface =>
    match d, op with
    | some (.interface _), .eql => some (.bool false)
    | some (.interface _), .neq => some (.bool true)
    | _, _ => none
  | _, _ => none

section
variable {σ σ' : Sim} {h h' : Hp} {w w' : World} {P : Program} {ti : TI} {tmps : List AV} {a : Act}

theorem eqGuard_two (op : BinOp) (t : TypeId) (x y : Operand) (u v : Value) (h1 : ¬ (u = .nilIface ∧ v = .nilIface)) (h2 : ¬ ((∃ c, u = .agg c) ∧ ∃ c, v = .agg c)) (w : World) :
    (eqGuard op t x y u v).run P w = .ok () w := by
  unfold eqGuard
  cases op <;> first
    | rfl
    | (cases u <;> cases v <;> first
        | rfl
        | exact absurd ⟨rfl, rfl⟩ h1
        | exact absurd ⟨⟨_, rfl⟩, ⟨_, rfl⟩⟩ h2)

theorem run_equal_bool {t : TypeId} (hti : TIok P ti) (ht : ti.und t = some .bool) (x y : Bool) (w : World) : (Op.equal t (.bool x) (.bool y)).run P w = .ok (x == y) w := by
  have : ∀ d : Nat, (Op.equalIn (d + 1) t (.bool x) (.bool y)).run P w = .ok (x == y) w := fun d => by
    simp [Op.equalIn, run_und hti ht]
  exact this 9999

theorem run_equal_iface {t : TypeId} {ms : Array (String × TypeId)} (hti : TIok P ti) (ht : ti.und t = some (.interface ms)) (u : TypeId) (x : Value) (w : World) : (Op.equal t (.iface u x) .nilIface).run P w = .ok false w := by
  have : ∀ d : Nat, (Op.equalIn (d + 1) t (.iface u x) .nilIface).run P w = .ok false w := fun d => by
    simp [Op.equalIn, run_und hti ht]
  exact this 9999
theorem run_equal_nil {t : TypeId} {ms : Array (String × TypeId)} (hti : TIok P ti) (ht : ti.und t = some (.interface ms)) (w : World) : (Op.equal t .nilIface .nilIface).run P w = .ok true w := by
  have : ∀ d : Nat, (Op.equalIn (d + 1) t .nilIface .nilIface).run P w = .ok true w := fun d => by
    simp [Op.equalIn, run_und hti ht]
  exact this 9999
theorem run_equal_ptr {t e : TypeId} (hti : TIok P ti) (ht : ti.und t = some (.pointer e)) (w : World) : (Op.equal t (.pointer none) (.pointer none)).run P w = .ok true w := by
  have : ∀ d : Nat, (Op.equalIn (d + 1) t (.pointer none) (.pointer none)).run P w = .ok true w := fun d => by
    simp [Op.equalIn, run_und hti ht]
  exact this 9999
theorem run_equal_slice {t e : TypeId} (hti : TIok P ti) (ht : ti.und t = some (.slice e)) (n c n' c' : Nat) (w : World) : (Op.equal t (.slice none n c) (.slice none n' c')).run P w = .ok true w := by
  have : ∀ d : Nat, (Op.equalIn (d + 1) t (.slice none n c) (.slice none n' c')).run P w = .ok true w := fun d => by
    simp [Op.equalIn, run_und hti ht]
  exact this 9999

theorem eqGuard_nil {op : BinOp} {t : TypeId} {x y : Operand} (hp : P.underlying t = some (.interface #[])) (w : World) : (eqGuard op t x y .nilIface .nilIface).run P w = .ok () w := by
  have hg : (Op.eqGuardIn Op.maxDepth t .nilIface .nilIface).run P w = .ok false w := by
    have : ∀ d : Nat, (Op.eqGuardIn (d + 1) t .nilIface .nilIface).run P w = .ok false w := fun d => by
      simp [Op.eqGuardIn, underlying, hp]
    exact this 9999
  have two : (do if ← Op.eqGuardIn Op.maxDepth t .nilIface .nilIface then unsupported (.noEntry "binop/eql: two nil values of an interface type with methods, neither of them the literal nil") : Sem Unit).run P w = .ok () w := by
    simp [hg]
  unfold eqGuard
  cases op <;> first
    | rfl
    | (cases x <;> cases y <;> first
        | rfl
        | exact two)

theorem aBin2_sound (hti : TIok P ti) {op : BinOp} {t : TypeId} {u v r : Value} (hr : aBin2 (ti.und t) op u v = some r) (x y : Operand) (w : World) :
    (do eqGuard op t x y u v; binOp op t u v : Sem Value).run P w = .ok r w ∧ r.oneCell' = true := by
  unfold aBin2 at hr
  split at hr
  · -- numbers
    rename_i k a k' b
    simp only [Sem.run_bind, eqGuard_two op t x y (.int k a) (.int k' b) (by simp) (by simp), Result.andThen_ok]
    split at hr
    · split at hr
      · cases hr
      · rename_i hb
        cases hr
        exact ⟨by simp [binOp, Op.shift, hb], rfl⟩
    · split at hr
      · cases hr
      · rename_i hb
        cases hr
        exact ⟨by simp [binOp, Op.shift, hb], rfl⟩
    · rename_i hshl hshr
      split at hr
      · rename_i hk
        subst hk
        cases op <;> simp only [] at hr <;> first
          | (exact absurd rfl hshl)
          | (exact absurd rfl hshr)
          | (cases hr; exact ⟨by simp [binOp, Op.intArith, Op.intCmp, intBits_and, intBits_or, intBits_xor, intBits_andNot], rfl⟩)
          | (split at hr
             · cases hr
             · rename_i hb
               cases hr
               exact ⟨by simp [binOp, Op.intDiv, hb], rfl⟩)
          | cases hr
      · cases hr
  · rename_i a b
    split at hr
    · rename_i ht
      cases hr
      refine ⟨?_, rfl⟩
      simp only [Sem.run_bind, eqGuard_two .eql t x y (.bool a) (.bool b) (by simp) (by simp), Result.andThen_ok, binOp, run_equal_bool hti ht]
      rfl
    · rename_i ht
      cases hr
      refine ⟨?_, rfl⟩
      simp only [Sem.run_bind, eqGuard_two .neq t x y (.bool a) (.bool b) (by simp) (by simp), Result.andThen_ok, binOp, run_equal_bool hti ht]
      rfl
    · cases hr
  · rename_i a b
    simp only [Sem.run_bind, eqGuard_two op t x y (.string a) (.string b) (by simp) (by simp), Result.andThen_ok]
    split at hr
    · split at hr
      · rename_i hsz
        cases hr
        refine ⟨?_, rfl⟩
        have : ¬ (((a.size + b.size : Nat) : Int) > IntKind.i64.max) := by
          show ¬ (((a.size + b.size : Nat) : Int) > 9223372036854775807)
          omega
        simp only [binOp, Op.stringOp, this, if_false]
        rfl
      · cases hr
    all_goals first
      | (cases hr; exact ⟨rfl, rfl⟩)
      | cases hr
  · split at hr
    · rename_i ms ht
      split at hr
      · rename_i hms
        cases hr
        refine ⟨?_, rfl⟩
        have h0 : ms = #[] := Array.eq_empty_of_size_eq_zero hms
        subst h0
        simp only [Sem.run_bind, eqGuard_nil (hti.und _ _ ht), Result.andThen_ok, binOp, run_equal_nil hti ht]
        rfl
      · cases hr
    · rename_i ms ht
      split at hr
      · rename_i hms
        cases hr
        refine ⟨?_, rfl⟩
        have h0 : ms = #[] := Array.eq_empty_of_size_eq_zero hms
        subst h0
        simp only [Sem.run_bind, eqGuard_nil (hti.und _ _ ht), Result.andThen_ok, binOp, run_equal_nil hti ht]
        rfl
      · cases hr
    · cases hr
  · split at hr
    · rename_i ht
      cases hr
      refine ⟨?_, rfl⟩
      simp only [Sem.run_bind, eqGuard_two .eql t x y (.pointer none) (.pointer none) (by simp) (by simp), Result.andThen_ok, binOp, run_equal_ptr hti ht]
      rfl
    · rename_i ht
      cases hr
      refine ⟨?_, rfl⟩
      simp only [Sem.run_bind, eqGuard_two .neq t x y (.pointer none) (.pointer none) (by simp) (by simp), Result.andThen_ok, binOp, run_equal_ptr hti ht]
      rfl
    · cases hr
  · split at hr
    · rename_i ht
      cases hr
      refine ⟨?_, rfl⟩
      simp only [Sem.run_bind, eqGuard_two .eql t x y (.slice none _ _) (.slice none _ _) (by simp) (by simp), Result.andThen_ok, binOp, run_equal_slice hti ht]
      rfl
    · rename_i ht
      cases hr
      refine ⟨?_, rfl⟩
      simp only [Sem.run_bind, eqGuard_two .neq t x y (.slice none _ _) (.slice none _ _) (by simp) (by simp), Result.andThen_ok, binOp, run_equal_slice hti ht]
      rfl
    · cases hr
  · cases hr

theorem aBin_sound (hti : TIok P ti) {op : BinOp} {t : TypeId} {c d : AV} {u v r : Value} (hr : aBin (ti.und t) op c d = some r) (hu : V σ h w c u) (hv : V σ h w d v) (x y : Operand) :
    (do eqGuard op t x y u v; binOp op t u v : Sem Value).run P w = .ok r w ∧ r.oneCell' = true := by
  unfold aBin at hr
  split at hr
  · cases hu
    cases hv
    exact aBin2_sound hti hr x y w
  · rename_i ut uv
    cases hu
    cases hv
    rename_i uu _
    split at hr
    · rename_i ht
      cases hr
      refine ⟨?_, rfl⟩
      simp only [Sem.run_bind, eqGuard_two .eql t x y (.iface ut uu) .nilIface (by simp) (by simp), Result.andThen_ok, binOp, run_equal_iface hti ht]
      rfl
    · rename_i ht
      cases hr
      refine ⟨?_, rfl⟩
      simp only [Sem.run_bind, eqGuard_two .neq t x y (.iface ut uu) .nilIface (by simp) (by simp), Result.andThen_ok, binOp, run_equal_iface hti ht]
      rfl
    · cases hr
  · cases hr

def aUn (op : UnOp) : AV → Option Value
  | .lit (.int k n) =>
    match op with
    | .neg => some (.int k (k.wrap (0 - n)))
    | .xor => some (.int k (bits .xor k (if k.signed then -1 else k.max) n))
    | _ => none
  | .lit (.bool b) =>
    match op with
    | .not => some (.bool (!b))
    | _ => none
  | _ => none

theorem aUn_sound {op : UnOp} {c : AV} {u r : Value} (hr : aUn op c = some r) (hu : V σ h w c u) : (Op.unary op u).run P w = .ok r w ∧ r.oneCell' = true := by
  unfold aUn at hr
  split at hr
  · cases hu
    split at hr <;> first
      | (cases hr; exact ⟨by simp [Op.unary, Op.intArith, intBits_xor], rfl⟩)
      | cases hr
  · cases hu
    split at hr <;> first
      | (cases hr; exact ⟨rfl, rfl⟩)
      | cases hr
  · cases hr

/-- A field's or an element's part of a struct or an array. -/
def aPart (ti : TI) (t : TypeId) (cs : List AV) (off : Nat) : Option AV := do
  let g ← ti.agg t
  let n ← ti.sz t
  if g then if off + n ≤ cs.length then some (.agg ((cs.drop off).take n)) else none
  else cs[off]?

theorem aPart_sound (hti : TIok P ti) {t : TypeId} {cs : List AV} {us : Array Value} {off : Nat} {c : AV} (hp : aPart ti t cs off = some c) (hl : us.size = cs.length) (h1 : ∀ c ∈ cs, c.one = true)
    (hv : ∀ (i : Nat) c u, cs[i]? = some c → us[i]? = some u → V σ h w c u) : ∃ v, (part t us off).run P w = .ok v w ∧ V σ h w c v := by
  unfold aPart at hp
  simp only [Option.bind_eq_bind, Option.bind_eq_some_iff] at hp
  obtain ⟨g, hg, n, hn, hp⟩ := hp
  cases g with
  | true =>
    simp only [if_true] at hp
    split at hp
    · rename_i hle
      cases hp
      refine ⟨.agg (us.extract off (off + n)), by simp [part, run_isAgg hti hg, run_sizeOf hti hn], .agg ?_ ?_ ?_⟩
      · simp; omega
      · intro c hc
        exact h1 c (List.mem_of_mem_drop (List.mem_of_mem_take hc))
      · intro i c u hi hu
        have hin : i < n := by
          have := (List.getElem?_eq_some_iff.1 hi).1
          simp at this
          omega
        rw [List.getElem?_take_of_lt hin, List.getElem?_drop] at hi
        rw [Array.getElem?_extract_of_lt (by omega)] at hu
        exact hv (off + i) c u hi (by rw [← hu]; simp)
    · cases hp
  | false =>
    simp only [Bool.false_eq_true, if_false] at hp
    have hlt := (List.getElem?_eq_some_iff.1 hp).1
    have hu : us[off]? = some (us[off]'(by omega)) := Array.getElem?_eq_getElem _
    exact ⟨_, by simp [part, run_isAgg hti hg, hu], hv off c _ hp hu⟩

def fieldOf (ti : TI) (t : TypeId) (f : Nat) : Option Field :=
  match ti.und t with
  | some (.struct fs) => fs[f]?
  | _ => none

def aField (ti : TI) (t : TypeId) (x : AV) (f : Nat) : Option AV :=
  match x, fieldOf ti t f with
  | .agg cs, some fd => aPart ti fd.type cs fd.offset
  | _, _ => none

theorem aField_sound (hti : TIok P ti) {t : TypeId} {x c : AV} {f : Nat} {u : Value} (hf : aField ti t x f = some c) (hu : V σ h w x u) : ∃ v, (Instr.field t u f).run P w = .ok v w ∧ V σ h w c v := by
  unfold aField at hf
  split at hf
  · rename_i cs fd hfd
    unfold fieldOf at hfd
    split at hfd
    · rename_i fs ht
      cases hu with
      | agg hl h1 hv =>
        obtain ⟨v, k1, k2⟩ := aPart_sound hti hf hl h1 hv
        exact ⟨v, by simp [Instr.field, run_und hti ht, hfd, asAgg, k1], k2⟩
    · cases hfd
  · cases hf

/-- An address further on. -/
def AV.shift (n : Nat) : AV → Option AV
  | .ptr id off st => some (.ptr id (off + n) st)
  | .lptr t off => some (.lptr t (off + n))
  | .rptr cs => if n ≤ cs.length then some (.rptr (cs.drop n)) else none
  | _ => none

theorem shift_sound {n : Nat} {c d : AV} {u : Value} (hs : c.shift n = some d) (hu : VA σ h w c u) (hlive : ∀ id off st, c = .ptr id off st → (h.m (.blk id)).stamp = some st) :
    ∃ ar, u = .pointer (some ar) ∧ VA σ h w d (.pointer (some (ar.add n))) := by
  cases c with
  | ptr id off st =>
    cases hs
    have hl := hlive id off st rfl
    simp only [VA] at hu
    cases hu with
    | ptr h1 h2 h3 => exact ⟨_, rfl, by rw [add_of]; exact .ptr h1 h2 h3⟩
    | ptrS hu h1 h2 =>
      have := h2 st hl
      omega
  | lptr t off =>
    cases hs
    simp only [VA] at hu
    obtain ⟨b, hb, rfl⟩ := hu
    exact ⟨_, rfl, b, hb, by rw [add_of]⟩
  | rptr cs =>
    simp only [AV.shift] at hs
    split at hs
    · cases hs
      simp only [VA] at hu
      cases hu with
      | rptr vs hsp hF h1 h2 h3 h4 =>
        refine ⟨_, rfl, .rptr (fun i => vs (n + i)) (spot_add _ _ hsp) (by rw [block_add]; exact hF) (fun c hc => h1 c (List.mem_of_mem_drop hc)) (fun i c hi => ?_) (fun i c hi => ?_) (fun c hc => h4 c (List.mem_of_mem_drop hc))⟩
        · rw [List.getElem?_drop] at hi
          have := h2 (n + i) c hi
          rw [← this]
          congr 1
          unfold Addr.add
          by_cases hn : n = 0 <;> by_cases hi0 : i = 0 <;> simp [hn, hi0, Nat.add_assoc]
        · rw [List.getElem?_drop] at hi
          exact h3 (n + i) c hi
    · cases hs
  | _ => simp [AV.shift] at hs

/-- Is the block of a pointer as long as the pointer says? -/
def alive (m : Loc → AObj) : AV → Bool
  | .ptr id _ st => (m (.blk id)).stamp == some st
  | _ => true

def locs : AV → List Loc
  | .ptr id _ _ => [.blk id]
  | _ => []

def aFieldAddr (ti : TI) (m : Loc → AObj) (t : TypeId) (ad : AV) (f : Nat) : Option AV := do
  let fd ← fieldOf ti t f
  let n ← ti.sz fd.type
  if n = 0 ∨ alive m ad = false then none else ad.shift fd.offset

theorem aFieldAddr_sound (hti : TIok P ti) {t : TypeId} {ad d : AV} {f : Nat} {u : Value} (hf : aFieldAddr ti h.m t ad f = some d) (hu : VA σ h w ad u) :
    ∃ v, (Instr.fieldAt t u f).run P w = .ok v w ∧ VA σ h w d v := by
  unfold aFieldAddr at hf
  simp only [Option.bind_eq_bind, Option.bind_eq_some_iff] at hf
  obtain ⟨fd, hfd, n, hn, hf⟩ := hf
  split at hf
  · cases hf
  · rename_i hc
    obtain ⟨ar, rfl, k⟩ := shift_sound hf hu (fun id off st he => by
      subst he
      have : alive h.m (.ptr id off st) = true := by
        cases hh : alive h.m (.ptr id off st) with
        | true => rfl
        | false => exact absurd (.inr hh) hc
      simpa [alive] using this)
    unfold fieldOf at hfd
    split at hfd
    · rename_i fs ht
      refine ⟨_, ?_, k⟩
      have hn0 : n ≠ 0 := fun h0 => hc (.inl h0)
      simp [Instr.fieldAt, run_und hti ht, hfd, Instr.sureAddr, fieldPlace, run_sizeOf hti hn, hn0]
    · cases hfd
end
end Go.Proofs.Ytmmabdpmeijgmaa.AM
