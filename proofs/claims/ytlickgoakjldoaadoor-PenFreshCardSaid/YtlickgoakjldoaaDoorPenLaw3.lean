/- The plain laws of the pens: what Turn tells. -/
import Derived.Test.YtlickgoakjldoaaDoorPenLaw2
set_option linter.unusedVariables false
set_option linter.unusedSimpArgs false
namespace Go.SH

def tb (b b' : Int) (i : Nat) : List Int := bif ibits .andNot .i64 (ibits .and .i64 (bitv i) b) b' != 0 then [(i : Int) + 1] else []
theorem tb_len (b b' : Int) (i : Nat) : (tb b b' i).length ≤ 1 := by unfold tb; cases (ibits .andNot .i64 (ibits .and .i64 (bitv i) b) b' != 0) <;> simp
def tbs (b b' : Int) : Nat → Nat → List Int
  | 0, _ => []
  | m + 1, i => tb b b' i ++ tbs b b' m (i + 1)
theorem tbs_len (b b' : Int) : ∀ m i, (tbs b b' m i).length ≤ m
  | 0, _ => by simp [tbs]
  | m + 1, i => by have := tbs_len b b' m (i + 1); have := tb_len b b' i; simp [tbs]; omega

theorem turn_step (b b' : Int) (i : Nat) (hi : i ≤ 8) (out : List Int) (ho : out.length ≤ 1000) : pen_Turn_loop1 b b' (i : Int) out = some (.inr (((i + 1 : Nat) : Int), out ++ tb b b' i)) := by
  have e1 : decide ((i : Int) ≤ 8) = true := dec_t (by omega)
  have e2 : IntKind.i64.wrap ((i : Int) + 1) = (i : Int) + 1 := by rw [w64]; omega
  unfold pen_Turn_loop1
  rw [e1, cond_true, pen_bitOf_eq i hi, Option.bind_some, e2]
  unfold tb
  cases (ibits .andNot .i64 (ibits .and .i64 (bitv i) b) b' != 0) with
  | true =>
    rw [cond_true, req_pos (by rw [List.length_append]; simp; omega)]
    simp
  | false => simp

theorem turn_loop (b b' : Int) : ∀ (m i : Nat) (out : List Int), i + m = 9 → out.length + m ≤ 1000 →
    loopO (fun z => match z with | (x18, x19) => pen_Turn_loop1 b b' x18 x19) ((i : Int), out) = some (out ++ tbs b b' m i) := by
  intro m
  induction m with
  | zero =>
    intro i out hm ho
    obtain rfl : i = 9 := by omega
    exact (loopO_done rfl).trans (by simp [tbs])
  | succ m ih =>
    intro i out hm ho
    rw [loopO_eq]
    simp only
    rw [turn_step b b' i (by omega) out (by omega)]
    have := tb_len b b' i
    simp only
    rw [ih (i + 1) (out ++ tb b b' i) (by omega) (by rw [List.length_append]; omega)]
    simp [tbs]

/-- The numbers that ask for a colour. -/
def showS (base c : Int) : List Int := bif decide (c ≤ 8) then [base + (c - 1)] else bif decide (c ≤ 16) then [base + 60 + (c - 1) - 8] else [base + 8, 5, c - 1]
theorem show_eq (base c : Int) (hb : 0 ≤ base ∧ base ≤ 100) (hc : 0 ≤ c ∧ c ≤ 256) : pen_show base c = some (showS base c) := by
  have e1 : IntKind.i64.wrap (c - 1) = c - 1 := by rw [w64]; omega
  have e2 : IntKind.i64.wrap (base + (c - 1)) = base + (c - 1) := by rw [w64]; omega
  have e3 : IntKind.i64.wrap (base + 60) = base + 60 := by rw [w64]; omega
  have e4 : IntKind.i64.wrap (base + 60 + (c - 1)) = base + 60 + (c - 1) := by rw [w64]; omega
  have e5 : IntKind.i64.wrap (base + 60 + (c - 1) - 8) = base + 60 + (c - 1) - 8 := by rw [w64]; omega
  have e6 : IntKind.i64.wrap (base + 8) = base + 8 := by rw [w64]; omega
  unfold pen_show showS
  rw [e1, e2, e3, e4, e5, e6]
  have d1 : decide (c - 1 < 8) = decide (c ≤ 8) := by congr 1; simp; omega
  have d2 : decide (c - 1 < 16) = decide (c ≤ 16) := by congr 1; simp; omega
  rw [d1, d2]
  cases decide (c ≤ 8) <;> cases decide (c ≤ 16) <;> rfl
theorem show_len (base c : Int) : (showS base c).length ≤ 3 := by unfold showS; cases decide (c ≤ 8) <;> cases decide (c ≤ 16) <;> simp

def fineS (p : T3) : T3 := bif mayB p.1 p.2.1 p.2.2 then p else (0, 0, 0)
theorem fineS_r (p : T3) : 0 ≤ (fineS p).1 ∧ (fineS p).1 ≤ 255 ∧ 0 ≤ (fineS p).2.1 ∧ (fineS p).2.1 ≤ 256 ∧ 0 ≤ (fineS p).2.2 ∧ (fineS p).2.2 ≤ 256 := by
  unfold fineS
  cases h : mayB p.1 p.2.1 p.2.2 with
  | false => simp
  | true => simp [mayB] at h; simp; omega

def lost (a b : Int) : Bool := (a != 0) && (b == 0)
def gone (p q : T3) : Bool := (ibits .andNot .i64 p.1 q.1 != 0) || (lost p.2.1 q.2.1 || lost p.2.2 q.2.2)
/-- Numbers that make one pen of another one. -/
def turnS (p q : T3) : List Int :=
  bif (p.1 == q.1) && (p.2.1 == q.2.1 && p.2.2 == q.2.2) then [] else
    let p' : T3 := bif gone p q then (0, 0, 0) else p
    (bif gone p q then [0] else []) ++ tbs q.1 p'.1 9 0 ++ (bif q.2.1 != p'.2.1 then showS 30 q.2.1 else []) ++ (bif q.2.2 != p'.2.2 then showS 40 q.2.2 else [])

theorem Turn_1_eq (a b : Int) : pen_Turn_1 a b = some (lost a b) := by unfold pen_Turn_1 lost; cases (a != 0) <;> rfl

theorem Turn_eq (a0 a1 a2 a3 a4 a5 : Int) : pen_Turn a0 a1 a2 a3 a4 a5 = some (turnS (fineS (a0, a1, a2)) (fineS (a3, a4, a5))) := by
  have r1 := fineS_r (a0, a1, a2)
  have r2 := fineS_r (a3, a4, a5)
  unfold pen_Turn
  rw [pen_fine_eq, pen_fine_eq]
  have f1 : (bif mayB a0 a1 a2 then (a0, a1, a2) else (0, 0, 0)) = fineS (a0, a1, a2) := rfl
  have f2 : (bif mayB a3 a4 a5 then (a3, a4, a5) else (0, 0, 0)) = fineS (a3, a4, a5) := rfl
  rw [f1, f2]
  generalize fineS (a0, a1, a2) = p at *
  generalize fineS (a3, a4, a5) = q at *
  obtain ⟨x1, x2, x3⟩ := p
  obtain ⟨x4, x5, x6⟩ := q
  simp only [Option.bind_some, Turn_1_eq] at *
  unfold turnS
  simp only [Bool.and_true]
  cases hq : (x1 == x4) && (x2 == x5 && x3 == x6) with
  | true => rfl
  | false =>
    simp only [cond_false]
    have hgone : (bif ibits .andNot .i64 x1 x4 != 0 then some true else bif lost x2 x5 then some true else some (lost x3 x6)) = some (gone (x1, x2, x3) (x4, x5, x6)) := by
      unfold gone
      cases (ibits .andNot .i64 x1 x4 != 0) <;> cases lost x2 x5 <;> rfl
    rw [hgone]
    have key : ∀ (o : List Int) (p' : T3), o.length ≤ 1 →
        ((loopO (fun z => match z with | (x18, x19) => pen_Turn_loop1 x4 p'.1 x18 x19) (0, o)).bind fun x25 =>
          (bif ((x5 : Int) != p'.2.1) then ((pen_show 30 x5).bind fun x26 => req (((x25 ++ x26).length : Int) * 8 ≤ 140737488355328) (some (x25 ++ x26))) else (some x25) : Option ((List Int))).bind fun x27 =>
          (bif ((x6 : Int) != p'.2.2) then ((pen_show 40 x6).bind fun x28 => req (((x27 ++ x28).length : Int) * 8 ≤ 140737488355328) (some (x27 ++ x28))) else (some x27) : Option ((List Int))).bind fun x29 => some x29) =
        some (o ++ tbs x4 p'.1 9 0 ++ (bif x5 != p'.2.1 then showS 30 x5 else []) ++ (bif x6 != p'.2.2 then showS 40 x6 else [])) := by
      intro o p' ho
      have hl := turn_loop x4 p'.1 9 0 o rfl (by omega)
      simp only [Int.natCast_zero] at hl
      have ht := tbs_len x4 p'.1 9 0
      have s1 := show_len 30 x5
      have s2 := show_len 40 x6
      rw [hl, show_eq 30 x5 (by omega) (by omega), show_eq 40 x6 (by omega) (by omega)]
      simp only [Option.bind_some]
      cases (x5 != p'.2.1) <;> cases (x6 != p'.2.2) <;> simp only [cond_true, cond_false, Option.bind_some, List.append_nil]
      · rw [req_pos (by simp only [List.length_append]; omega)]; rfl
      · rw [req_pos (by simp only [List.length_append]; omega)]; rfl
      · rw [req_pos (by simp only [List.length_append]; omega), Option.bind_some, req_pos (by simp only [List.length_append]; omega)]; rfl
    cases gone (x1, x2, x3) (x4, x5, x6) with
    | true => exact key [0] (0, 0, 0) (by simp)
    | false => exact key [] (x1, x2, x3) (by simp)
end Go.SH
