/- The plain laws of the pens: Form; the known rows. -/
import Derived.Test.YtlickgoakjldoaaDoorPenLaw3
set_option linter.unusedVariables false
set_option linter.unusedSimpArgs false
namespace Go.SH

def InR (l : List Int) : Prop := ∀ n ∈ l, 0 ≤ n ∧ n ≤ 256
theorem InR.app {a b : List Int} (ha : InR a) (hb : InR b) : InR (a ++ b) := fun n h => (List.mem_append.1 h).elim (ha n) (hb n)
theorem InR.nil : InR [] := fun n h => by simp at h
theorem InR.one {x : Int} (h : 0 ≤ x ∧ x ≤ 256) : InR [x] := fun n hn => by simp at hn; subst hn; exact h
theorem tbs_r (b b' : Int) : ∀ m i, i + m ≤ 9 → InR (tbs b b' m i)
  | 0, _, _ => InR.nil
  | m + 1, i, h => by
    refine InR.app ?_ (tbs_r b b' m (i + 1) (by omega))
    unfold tb
    cases (ibits .andNot .i64 (ibits .and .i64 (bitv i) b) b' != 0)
    · exact InR.nil
    · exact InR.one (by omega)
theorem show_r (base c : Int) (hb : 1 ≤ base ∧ base ≤ 100) (hc : 0 ≤ c ∧ c ≤ 256) : InR (showS base c) := by
  unfold showS
  by_cases h1 : c ≤ 8
  · rw [dec_t h1]; exact InR.one (by omega)
  · rw [dec_f h1]
    by_cases h2 : c ≤ 16
    · rw [dec_t h2]; exact InR.one (by omega)
    · rw [dec_f h2]; intro n hn; simp at hn; omega
theorem bif_r {c : Bool} {a : List Int} (h : InR a) : InR (bif c then a else []) := by cases c; exact InR.nil; exact h
theorem turn_r (p q : T3) (hq : 0 ≤ q.2.1 ∧ q.2.1 ≤ 256 ∧ 0 ≤ q.2.2 ∧ q.2.2 ≤ 256) : InR (turnS p q) := by
  unfold turnS
  cases (p.1 == q.1) && (p.2.1 == q.2.1 && p.2.2 == q.2.2)
  · simp only [cond_false]
    exact InR.app (InR.app (InR.app (bif_r (InR.one (by omega))) (tbs_r _ _ _ _ (by omega))) (bif_r (show_r _ _ (by omega) (by omega)))) (bif_r (show_r _ _ (by omega) (by omega)))
  · exact InR.nil
theorem bif_len {c : Bool} {a : List Int} {n : Nat} (h : a.length ≤ n) : (bif c then a else []).length ≤ n := by cases c; exact Nat.zero_le _; exact h
theorem turn_len (p q : T3) : (turnS p q).length ≤ 16 := by
  unfold turnS
  cases (p.1 == q.1) && (p.2.1 == q.2.1 && p.2.2 == q.2.2)
  · simp only [cond_false, List.length_append]
    have h1 := bif_len (c := gone p q) (a := [0]) (n := 1) (by simp)
    have h2 := tbs_len q.1 (bif gone p q then (0, 0, 0) else p).1 9 0
    have h3 := bif_len (c := q.2.1 != (bif gone p q then (0, 0, 0) else p).2.1) (show_len 30 q.2.1)
    have h4 := bif_len (c := q.2.2 != (bif gone p q then (0, 0, 0) else p).2.2) (show_len 40 q.2.2)
    omega
  · simp

/-- The numbers as text, behind the i-th. -/
def js : Nat → List Int → List UInt8
  | _, [] => []
  | i, x :: r => ((bif decide (0 < i) then [59] else []) ++ dg x.toNat) ++ js (i + 1) r
theorem js_len : ∀ (l : List Int) (i : Nat), (js i l).length ≤ 4 * l.length
  | [], _ => by simp [js]
  | x :: r, i => by
    have := js_len r (i + 1)
    have := dg_len x.toNat
    simp only [js, List.length_append, List.length_cons]
    cases decide (0 < i) <;> simp <;> omega

theorem form_step (l : List Int) (i : Nat) (x : Int) (out : List UInt8) (h : l[i]? = some x) (hx : 0 ≤ x ∧ x ≤ 256) (hl : l.length ≤ 1000) (ho : out.length ≤ 10000) :
    pen_Form_loop1 l (i : Int) out = some (.inr (((i + 1 : Nat) : Int), out ++ ((bif decide (0 < i) then [59] else []) ++ dg x.toNat))) := by
  have hlt : i < l.length := (List.getElem?_eq_some_iff.1 h).1
  have e1 : decide ((i : Int) < (l.length : Int)) = true := dec_t (by omega)
  have e2 : IntKind.i64.wrap ((i : Int) + 1) = ((i + 1 : Nat) : Int) := by rw [w64]; omega
  have e3 : decide ((i : Int) > 0) = decide (0 < i) := by congr 1; simp
  obtain ⟨n, rfl⟩ : ∃ n : Nat, x = (n : Int) := ⟨x.toNat, by omega⟩
  unfold pen_Form_loop1
  rw [e1, cond_true, getI_nat, h, Option.bind_some, e2, e3]
  cases decide (0 < i) with
  | true =>
    rw [cond_true, req_pos (by rw [List.length_append]; simp; omega), Option.bind_some, AppendInt_eq _ (by omega) _ (by rw [List.length_append]; simp; omega)]
    simp
  | false =>
    rw [cond_false, Option.bind_some, AppendInt_eq _ (by omega) _ (by omega)]
    simp

theorem form_loop (l : List Int) (hr : InR l) (hl : l.length ≤ 1000) : ∀ (m i : Nat) (out : List UInt8), l.length - i = m → i ≤ l.length → out.length + 4 * m ≤ 10000 →
    loopO (fun z => match z with | (x4, x5) => pen_Form_loop1 l x4 x5) ((i : Int), out) = some (out ++ js i (l.drop i)) := by
  intro m
  induction m with
  | zero =>
    intro i out hm hi ho
    have : i = l.length := by omega
    subst this
    refine (loopO_done (r := out) ?_).trans (by simp [js])
    simp only [pen_Form_loop1, dec_f (show ¬ ((l.length : Int) < (l.length : Int)) by omega), cond_false]
  | succ m ih =>
    intro i out hm hi ho
    have hlt : i < l.length := by omega
    rw [loopO_eq]
    simp only
    rw [form_step l i l[i] out (List.getElem?_eq_getElem hlt) (hr _ (List.getElem_mem hlt)) hl (by omega)]
    simp only
    have hd := dg_len l[i].toNat
    rw [ih (i + 1) _ (by omega) (by omega) (by simp only [List.length_append]; cases decide (0 < i) <;> simp <;> omega), List.drop_eq_getElem_cons hlt]
    simp only [js, List.append_assoc]

def formB (l : List Int) : List UInt8 := bif l.isEmpty then [] else ([27, 91] ++ js 0 l) ++ [109]
theorem Form_eq (a0 a1 a2 a3 a4 a5 : Int) : pen_Form a0 a1 a2 a3 a4 a5 = some (formB (turnS (fineS (a0, a1, a2)) (fineS (a3, a4, a5)))) := by
  unfold pen_Form
  rw [Turn_eq, Option.bind_some]
  have hr := turn_r (fineS (a0, a1, a2)) (fineS (a3, a4, a5)) (by have := fineS_r (a3, a4, a5); omega)
  have hl := turn_len (fineS (a0, a1, a2)) (fineS (a3, a4, a5))
  generalize turnS (fineS (a0, a1, a2)) (fineS (a3, a4, a5)) = l at *
  unfold formB
  cases l with
  | nil => rfl
  | cons x r =>
    have e : ((((x :: r).length : Int) : Int) == 0) = false := by simp; omega
    have hL := form_loop (x :: r) hr (by omega) _ 0 [27, 91] rfl (Nat.zero_le _) (by simp at *; omega)
    have hj := js_len (x :: r) 0
    simp only [Int.natCast_zero, List.drop_zero] at hL
    rw [e, cond_false, hL, Option.bind_some, req_pos (by simp only [List.length_append]; simp at *; omega)]
    rfl

theorem known_eq : oriellaw12_known = some true := by
  have h1 : (bif ([1, 31, 48, 5, 200] : List Int).isEmpty then (0, 0, 0) else applyL (bif mayB 0 0 0 then (0, 0, 0) else (0, 0, 0)) [1, 31, 48, 5, 200]) = ((1, 2, 201) : T3) := by
    simp [applyL, act, grp, colS, paint, isB, mayB, bitv]
    decide +kernel
  have h2 : formB (turnS (fineS (1, 2, 0)) (fineS (0, 2, 0))) = lit_3 := by decide +kernel
  unfold oriellaw12_known
  rw [pen_Apply_eq _ _ _ _ (by simp), h1]
  simp only [Option.bind_some]
  rw [Form_eq, h2]
  rfl
end Go.SH
