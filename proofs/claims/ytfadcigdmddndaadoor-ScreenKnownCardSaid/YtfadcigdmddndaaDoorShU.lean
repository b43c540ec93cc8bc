/- What the printed walks lean on. -/
import Derived.Test.YtfadcigdmddndaaDoorShS
set_option linter.unusedVariables false
set_option linter.unusedSimpArgs false
namespace Go.SH

section
variable {E : Env} {d : Option Tmp} {ty : TypeId} {pos : String} {after : Array Edge} {g : Option (Nat × Bool)} {ra : Al} {rl : Lb}

theorem xbin_quo {P : Program} {T : TypeId} {x y : Operand} {k : IntKind} {n m : Int} (h : m ≠ 0) : xbin P .quo T x y (.int k n) (.int k m) = some (.int k (k.wrap (n.tdiv m))) := by
  show (if k = k then (if m = 0 then none else some (PV.int k (k.wrap (n.tdiv m)))) else none) = _
  simp [h]
theorem xbin_rem {P : Program} {T : TypeId} {x y : Operand} {k : IntKind} {n m : Int} (h : m ≠ 0) : xbin P .rem T x y (.int k n) (.int k m) = some (.int k (n.tmod m)) := by
  show (if k = k then (if m = 0 then none else some (PV.int k (n.tmod m))) else none) = _
  simp [h]
theorem xbin_shl {P : Program} {T : TypeId} {x y : Operand} {k k' : IntKind} {n m : Int} (h : 0 ≤ m) : xbin P .shl T x y (.int k n) (.int k' m) = some (.int k (k.wrap (n * 2 ^ (min m.toNat k.bits)))) := by
  have : ¬ m < 0 := by omega
  show (if k = k' then (if m < 0 then none else some (PV.int k (k.wrap (n * 2 ^ (min m.toNat k.bits))))) else (if m < 0 then none else some (PV.int k (k.wrap (n * 2 ^ (min m.toNat k.bits)))))) = _
  simp [this]
theorem xbin_shr {P : Program} {T : TypeId} {x y : Operand} {k k' : IntKind} {n m : Int} (h : 0 ≤ m) : xbin P .shr T x y (.int k n) (.int k' m) = some (.int k (n.fdiv (2 ^ (min m.toNat k.bits)))) := by
  have : ¬ m < 0 := by omega
  show (if k = k' then (if m < 0 then none else some (PV.int k (n.fdiv (2 ^ (min m.toNat k.bits))))) else (if m < 0 then none else some (PV.int k (n.fdiv (2 ^ (min m.toNat k.bits)))))) = _
  simp [this]

/-- Bytes as a text. -/
theorem AOp_bytesL {s t e : TypeId} {x : Operand} {p : PV} {bs : List UInt8} (hx : xev E.G ra x = some p) (hs : E.P.underlying s = some (.slice e)) (he : E.P.underlying e = some (.int .u8)) (ht : E.P.underlying t = some .string)
    (hc : Src E rl eU8 s p bs) : AOp E ⟨d, .convert s t x, ty, pos, after, g⟩ ra rl (.str bs) [] := by
  refine AOp_bytesStr hx hs he ht ?_
  rw [bytesPV_fl]
  rcases hc.ok with h | h
  · exact h.2.1
  · exact absurd (h.1.symm.trans hs) (by simp)

/-- A slice of this call's own, handed out by what it holds. -/
theorem Out.fl {L : Lb} {α : Type} {e : El α} {lab n s : Nat} {co : Option Nat} {l : List α} {cells : List PV} (hl : lget L lab = some (some cells)) (hc : cells = fl e l) (hs : s = e.sz) (hn : n = l.length) : Out L (.rw lab 0 n s co) (.ro (fl e l) l.length none) := by
  subst hc; subst hs; subst hn
  exact .rw hl (by rw [List.drop_zero, ← fl_length, List.take_length]) (by rw [fl_length]; omega) (fl_pure l)
end

/-- The end of a function that hands out plain values, in a state that says less. -/
def RetsW (E : Env) (fn : Func) (v : PV) : Exit → Al → Lb → Prop := fun e al L => ∃ al' L', Weak E (fun _ => False) al L al' L' ∧ Rets E fn v e al' L'
theorem RetsW.mk {E : Env} {fn : Func} {v : PV} {e : Exit} {al : Al} {L : Lb} (al' : Al) (L' : Lb) (h : Weak E (fun _ => False) al L al' L') (r : Rets E fn v e al' L') : RetsW E fn v e al L := ⟨al', L', h, r⟩
theorem ACalls_pureW {E : Env} (hE : GOK E) {f : FuncId} {fn : Func} {c : Code} {args : List PV} {v : PV} (hf : E.P.funcs[f]? = some fn) (hb : fn.body = some c) (hn : args.length ≤ fn.ntmps)
    (h : AW E (fun _ => False) fn.ntmps c (RetsW E fn v) (entry args 0) []) : Pure E f args v :=
  ACalls_pure hE hf hb hn (AW_post h fun e al L ⟨al', L', hw, hr⟩ => ⟨al', L', hw, hr⟩)

end Go.SH
