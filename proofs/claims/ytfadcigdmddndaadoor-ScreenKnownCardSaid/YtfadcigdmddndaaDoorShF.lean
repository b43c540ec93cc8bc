/- The operations that touch no memory, as steps of a symbolic state. -/
import Derived.Test.YtfadcigdmddndaaDoorShE
set_option linter.unusedVariables false
set_option linter.unusedSimpArgs false
namespace Go.SH

section
variable {P : Program} {w : World} {σ : Sig} {av : Nat → Prop}

theorem run_guard_not {op : BinOp} (h1 : op ≠ .eql) (h2 : op ≠ .neq) {T : TypeId} {x y : Operand} {u v : Value} : (eqGuard op T x y u v).run P w = .ok () w := by
  cases op <;> first | rfl | exact absurd rfl h1 | exact absurd rfl h2

theorem xbin_ok {op : BinOp} {T : TypeId} {x y : Operand} {a b c : PV} {u v : Value} (h : xbin P op T x y a b = some c) (ha : VR w σ av a u) (hb : VR w σ av b v) :
    ∃ r, (eqGuard op T x y u v).run P w = .ok () w ∧ (binOp op T u v).run P w = .ok r w ∧ VR w σ av c r := by
  unfold xbin at h
  split at h
  · cases ha; cases hb
    rename_i k n k' m
    split at h
    · rename_i hk; subst hk
      split at h
      · split at h
        · simp at h
        · rename_i hm; simp at h; subst h
          exact ⟨_, run_eqGuard_int, by simp [binOp, Op.intDiv, hm], .int _ _⟩
      · split at h
        · simp at h
        · rename_i hm; simp at h; subst h
          exact ⟨_, run_eqGuard_int, by simp [binOp, Op.intDiv, hm], .int _ _⟩
      · split at h
        · simp at h
        · rename_i hm; simp at h; subst h
          exact ⟨_, run_eqGuard_int, by simp [binOp, Op.shift, hm], .int _ _⟩
      · split at h
        · simp at h
        · rename_i hm; simp at h; subst h
          exact ⟨_, run_eqGuard_int, by simp [binOp, Op.shift, hm], .int _ _⟩
      · obtain ⟨r, h1, h2⟩ := run_binOp_int (P := P) (w := w) (σ := σ) (av := av) (T := T) h
        exact ⟨r, run_eqGuard_int, h1, h2⟩
    · split at h
      · split at h
        · simp at h
        · rename_i hm; simp at h; subst h
          exact ⟨_, run_eqGuard_int, by simp [binOp, Op.shift, hm], .int _ _⟩
      · split at h
        · simp at h
        · rename_i hm; simp at h; subst h
          exact ⟨_, run_eqGuard_int, by simp [binOp, Op.shift, hm], .int _ _⟩
      · simp at h
  · cases ha; cases hb
    obtain ⟨r, h1, h2⟩ := run_binOp_str (P := P) (w := w) (σ := σ) (av := av) (T := T) h
    exact ⟨r, run_eqGuard_str, h1, h2⟩
  · rename_i hna hnb
    have hn : ∀ c, xeql P T x y a b = some c → nonNum u v = true := by
      intro c hc
      have hd : a ≠ .dead := by rintro rfl; simp [xeql] at hc
      have hd' : b ≠ .dead := by rintro rfl; cases a <;> simp [xeql] at hc
      clear h hc
      cases ha <;> cases hb <;> first | rfl | exact (hna _ _ _ _ rfl rfl).elim | exact (hnb _ _ rfl rfl).elim | (exfalso; simp_all; done)
    split at h
    · simp only [Option.map_eq_some_iff] at h
      obtain ⟨c, h, rfl⟩ := h
      obtain ⟨h1, h2⟩ := xeql_ok (P := P) (.inl rfl) h ha hb (hn c h)
      exact ⟨_, h1, h2, .bool _⟩
    · simp only [Option.map_eq_some_iff] at h
      obtain ⟨c, h, rfl⟩ := h
      obtain ⟨h1, h2⟩ := xeql_ok (P := P) (.inr rfl) h ha hb (hn c h)
      exact ⟨_, h1, h2, .bool _⟩
    · simp at h
end

section
variable {E : Env} {d : Option Tmp} {ty : TypeId} {pos : String} {after : Array Edge} {g : Option (Nat × Bool)} {ra : Al} {rl : Lb}

theorem AOp_binOp {op : BinOp} {T yt : TypeId} {x y : Operand} {a b c : PV} (hx : xev E.G ra x = some a) (hy : xev E.G ra y = some b) (h : xbin E.P op T x y a b = some c) :
    AOp E ⟨d, .binOp op T x y yt, ty, pos, after, g⟩ ra rl c [] := by
  refine AOp_val fun A w σ al L a' r h1 h2 => ?_
  obtain ⟨v, e1, e2, e3⟩ := xbin_ok h (xev_ok r h1 hx) (xev_ok r h1 hy)
  exact ⟨v, by simp [execOp, e1, e2], e3⟩

theorem AOp_move {x : Operand} {c : PV} (hx : xev E.G ra x = some c) : AOp E ⟨d, .move x, ty, pos, after, g⟩ ra rl c [] :=
  AOp_val fun A w σ al L a' r h1 h2 => ⟨_, rfl, xev_ok r h1 hx⟩
theorem AOp_assign {x : Operand} {c : PV} (hx : xev E.G ra x = some c) : AOp E ⟨d, .assign x, ty, pos, after, g⟩ ra rl c [] :=
  AOp_val fun A w σ al L a' r h1 h2 => ⟨_, rfl, xev_ok r h1 hx⟩

def xpick (c : PV) (a b : Option PV) : Option PV :=
  match c with
  | .bool c => match a, b with
    | some (.bool x), some (.bool y) => some (.bool (bif c then x else y))
    | a, b => if c then a else b
  | _ => none

theorem AOp_pick {c x y : Operand} {p r : PV} (hc : xev E.G ra c = some p) (h : xpick p (xev E.G ra x) (xev E.G ra y) = some r) : AOp E ⟨d, .pick c x y, ty, pos, after, g⟩ ra rl r [] := by
  refine AOp_val fun A w σ al L a' rr h1 h2 => ?_
  have hv := xev_ok rr h1 hc
  unfold xpick at h
  split at h
  · rename_i b
    have e : a'.eval c = .bool b := by generalize a'.eval c = v at hv; cases hv; rfl
    have hr : (execOp a'.eval ⟨d, .pick c x y, ty, pos, after, g⟩).run E.P w = .ok (.value (if b then a'.eval x else a'.eval y)) w := by
      simp [execOp, e, asBool]
    refine ⟨_, hr, ?_⟩
    split at h
    · rename_i u v hx hy
      simp at h; subst h
      have h3 := xev_ok rr h1 hx
      have h4 := xev_ok rr h1 hy
      cases b
      · exact h4
      · exact h3
    · cases b
      · exact xev_ok rr h1 h
      · exact xev_ok rr h1 h
  · simp at h

def xun : UnOp → PV → Option PV
  | .not, .bool b => some (.bool (!b))
  | .neg, .int k n => some (.int k (k.wrap (0 - n)))
  | .xor, .int k n => some (.int k (ibits .xor k (if k.signed then -1 else k.max) n))
  | _, _ => none

theorem AOp_unOp {op : UnOp} {T : TypeId} {x : Operand} {a c : PV} (hx : xev E.G ra x = some a) (h : xun op a = some c) : AOp E ⟨d, .unOp op T x, ty, pos, after, g⟩ ra rl c [] := by
  refine AOp_val fun A w σ al L a' r h1 h2 => ?_
  have hv := xev_ok r h1 hx
  unfold xun at h
  split at h <;> simp at h <;> subst h
  all_goals
    generalize he : a'.eval x = v at hv
    cases hv
  · exact ⟨_, by simp [execOp, Op.unary, he], .bool _⟩
  · exact ⟨_, by simp [execOp, Op.unary, Op.intArith, he], .int _ _⟩
  · exact ⟨_, by simp [execOp, Op.unary, Op.intBits, ibits, he], .int _ _⟩

end
end Go.SH
