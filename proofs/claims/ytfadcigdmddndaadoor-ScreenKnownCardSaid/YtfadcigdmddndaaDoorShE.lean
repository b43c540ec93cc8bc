/- The operations on numbers, truth values, texts and structs that touch no memory. -/
import Derived.Test.YtfadcigdmddndaaDoorShD
set_option linter.unusedVariables false
set_option linter.unusedSimpArgs false
namespace Go.SH

def ibits (op : BinOp) (k : IntKind) (x y : Int) : Int :=
  let a := BitVec.ofInt k.bits x
  let b := BitVec.ofInt k.bits y
  k.wrap ((match op with | .and => a &&& b | .or => a ||| b | .xor => a ^^^ b | _ => a &&& ~~~b).toNat)

def isShift : BinOp → Bool
  | .shl | .shr => true
  | _ => false
def isDiv : BinOp → Bool
  | .quo | .rem => true
  | _ => false

/-- A number out of two, where nothing need be asked. -/
def ibin : BinOp → IntKind → Int → Int → Option PV
  | .add, k, a, b => some (.int k (k.wrap (a + b)))
  | .sub, k, a, b => some (.int k (k.wrap (a - b)))
  | .mul, k, a, b => some (.int k (k.wrap (a * b)))
  | .and, k, a, b => some (.int k (ibits .and k a b))
  | .or, k, a, b => some (.int k (ibits .or k a b))
  | .xor, k, a, b => some (.int k (ibits .xor k a b))
  | .andNot, k, a, b => some (.int k (ibits .andNot k a b))
  | .eql, _, a, b => some (.bool (a == b))
  | .neq, _, a, b => some (.bool (a != b))
  | .lss, _, a, b => some (.bool (decide (a < b)))
  | .leq, _, a, b => some (.bool (decide (a ≤ b)))
  | .gtr, _, a, b => some (.bool (decide (a > b)))
  | .geq, _, a, b => some (.bool (decide (a ≥ b)))
  | _, _, _, _ => none

def sbin : BinOp → List UInt8 → List UInt8 → Option PV
  | .eql, a, b => some (.bool (a == b))
  | .neq, a, b => some (.bool !(a == b))
  | .lss, a, b => some (.bool (Op.bytesLess a b))
  | .geq, a, b => some (.bool !(Op.bytesLess a b))
  | _, _, _ => none

def isConstO : Operand → Bool
  | .const _ => true
  | _ => false

/-- '==' behind its guard. -/
def xeql (P : Program) (T : TypeId) (x y : Operand) (a b : PV) : Option Bool :=
  match a, b with
  | .agg xs, .agg ys => if P.eqGuardType P.depth T || rowOf P T != some true then none else xeq P 20 T xs ys
  | .nili, .nili => if (isConstO x || isConstO y) && rowOf P T == some false then xeq P 20 T [.nili] [.nili] else none
  | .dead, _ => none
  | _, .dead => none
  | a, b => if rowOf P T != some false then none else xeq P 20 T [a] [b]

def xbin (P : Program) (op : BinOp) (T : TypeId) (x y : Operand) (a b : PV) : Option PV :=
  match a, b with
  | .int k n, .int k' m => if k = k' then
      match op with
      | .quo => if m = 0 then none else some (.int k (k.wrap (n.tdiv m)))
      | .rem => if m = 0 then none else some (.int k (n.tmod m))
      | .shl => if m < 0 then none else some (.int k (k.wrap (n * 2 ^ (min m.toNat k.bits))))
      | .shr => if m < 0 then none else some (.int k (n.fdiv (2 ^ (min m.toNat k.bits))))
      | _ => ibin op k n m
    else match op with
      | .shl => if m < 0 then none else some (.int k (k.wrap (n * 2 ^ (min m.toNat k.bits))))
      | .shr => if m < 0 then none else some (.int k (n.fdiv (2 ^ (min m.toNat k.bits))))
      | _ => none
  | .str s, .str t => sbin op s t
  | _, _ => match op with
    | .eql => (xeql P T x y a b).map .bool
    | .neq => (xeql P T x y a b).map fun c => .bool (!c)
    | _ => none

section
variable {P : Program} {w : World} {σ : Sig} {av : Nat → Prop}

theorem VC_of {T : TypeId} {r : Bool} {x : PV} {v : Value} (h : VR w σ av x v) (hr : rowOf P T = some r) (hx : r = false) : VC w σ av r [x] v := .inr ⟨hx, x, rfl, h⟩

theorem xeq_single {T : TypeId} {x y : PV} {b : Bool} (h : xeq P 20 T [x] [y] = some b) : (∃ r, rowOf P T = some r ∧ r = false) ∨ ∃ r, rowOf P T = some r ∧ r = true := by
  obtain ⟨r, h1, _⟩ := xeq_row h
  cases r
  · exact .inl ⟨_, h1, rfl⟩
  · exact .inr ⟨_, h1, rfl⟩

theorem run_binOp_int {op : BinOp} {k : IntKind} {n m : Int} {x : PV} {T : TypeId} (h : ibin op k n m = some x) : ∃ v, (binOp op T (.int k n) (.int k m)).run P w = .ok v w ∧ VR w σ av x v := by
  cases op <;> simp only [ibin, Option.some.injEq] at h <;> first
    | (subst h; refine ⟨_, ?_, .int _ _⟩; simp [binOp, Op.intArith, Op.intBits, ibits])
    | (subst h; refine ⟨_, ?_, .bool _⟩; simp [binOp, Op.intCmp])
    | simp at h

theorem run_eqGuard_int {op : BinOp} {T : TypeId} {x y : Operand} {k k' : IntKind} {n m : Int} : (eqGuard op T x y (.int k n) (.int k' m)).run P w = .ok () w := by
  cases op <;> simp [eqGuard]
theorem run_eqGuard_str {op : BinOp} {T : TypeId} {x y : Operand} {s t : ByteArray} : (eqGuard op T x y (.string s) (.string t)).run P w = .ok () w := by
  cases op <;> simp [eqGuard]

theorem bytes_toList (l : List UInt8) : (⟨⟨l⟩⟩ : ByteArray).toList = l := by rw [ByteArray.toList_eq]

theorem run_binOp_str {op : BinOp} {s t : List UInt8} {x : PV} {T : TypeId} (h : sbin op s t = some x) : ∃ v, (binOp op T (.string ⟨⟨s⟩⟩) (.string ⟨⟨t⟩⟩)).run P w = .ok v w ∧ VR w σ av x v := by
  cases op <;> simp only [sbin, Option.some.injEq] at h <;> first
    | (subst h; refine ⟨_, ?_, .bool _⟩; simp [binOp, Op.stringOp])
    | simp at h

theorem run_guard_const {op : BinOp} {T : TypeId} {x y : Operand} (h : (isConstO x || isConstO y) = true) : (eqGuard op T x y .nilIface .nilIface).run P w = .ok () w := by
  cases op <;> cases x <;> cases y <;> simp_all [eqGuard, isConstO]

def nonNum : Value → Value → Bool
  | .int _ _, .int _ _ => false
  | .float _ _, .float _ _ => false
  | .complex _ _ _, .complex _ _ _ => false
  | .string _, .string _ => false
  | _, _ => true

theorem binOp_eql_of {T : TypeId} {u v : Value} (h : nonNum u v = true) : binOp .eql T u v = (do pure (.bool (← Op.equal T u v)) : Sem Value) := by
  unfold binOp
  split <;> first | rfl | contradiction | (simp [nonNum] at h; done)
theorem binOp_neq_of {T : TypeId} {u v : Value} (h : nonNum u v = true) : binOp .neq T u v = (do pure (.bool (!(← Op.equal T u v))) : Sem Value) := by
  unfold binOp
  split <;> first | rfl | contradiction | (simp [nonNum] at h; done)

theorem run_eq_of {op : BinOp} (hop : op = .eql ∨ op = .neq) {T : TypeId} {u v : Value} (h : nonNum u v = true) {c : Bool} (he : (Op.equal T u v).run P w = .ok c w) :
    (binOp op T u v).run P w = .ok (.bool (if op = .eql then c else !c)) w := by
  rcases hop with rfl | rfl
  · rw [binOp_eql_of h]; simp [he]
  · rw [binOp_neq_of h]; simp [he]

def guardFree : Value → Value → Bool
  | .nilIface, .nilIface => false
  | .agg _, .agg _ => false
  | _, _ => true

theorem run_guard_free {op : BinOp} {T : TypeId} {x y : Operand} {u v : Value} (h : guardFree u v = true) : (eqGuard op T x y u v).run P w = .ok () w := by
  cases op <;> first | rfl | (cases u <;> cases v <;> first | rfl | (simp [guardFree] at h; done))

theorem xeql_ok {op : BinOp} (hop : op = .eql ∨ op = .neq) {T : TypeId} {x y : Operand} {a b : PV} {u v : Value} {c : Bool} (h : xeql P T x y a b = some c) (ha : VR w σ av a u) (hb : VR w σ av b v)
    (hn : nonNum u v = true) :
    (eqGuard op T x y u v).run P w = .ok () w ∧ (binOp op T u v).run P w = .ok (.bool (if op = .eql then c else !c)) w := by
  have key : ∀ (xs ys : List PV) (r : Bool), xeq P 20 T xs ys = some c → rowOf P T = some r → VC w σ av r xs u → VC w σ av r ys v → (Op.equal T u v).run P w = .ok c w := by
    intro xs ys r h1 h2 h3 h4
    exact xeq_ok 20 10000 (by omega) h1 h2 h3 h4
  unfold xeql at h
  split at h
  · rename_i xs ys
    split at h
    · simp at h
    · rename_i hg
      simp at hg
      cases ha with
      | agg cs hl hv =>
      cases hb with
      | agg cs' hl' hv' =>
        exact ⟨run_eqGuard_agg w op T x y _ _ hg.1, run_eq_of hop hn (key xs ys true h hg.2 (.inl ⟨rfl, cs, rfl, hl, hv⟩) (.inl ⟨rfl, cs', rfl, hl', hv'⟩))⟩
  · split at h
    · rename_i hc
      simp at hc
      cases ha; cases hb
      exact ⟨run_guard_const (by simpa using hc.1), run_eq_of hop hn (key _ _ false h hc.2 (.inr ⟨rfl, _, rfl, .nili⟩) (.inr ⟨rfl, _, rfl, .nili⟩))⟩
    · simp at h
  · simp at h
  · simp at h
  · split at h
    · simp at h
    · rename_i hr
      simp at hr
      refine ⟨run_guard_free ?_, run_eq_of hop hn (key _ _ false h hr (.inr ⟨rfl, _, rfl, ha⟩) (.inr ⟨rfl, _, rfl, hb⟩))⟩
      clear key hn hop h
      cases ha <;> cases hb <;> first | rfl | (exfalso; simp_all; done)
end
end Go.SH
