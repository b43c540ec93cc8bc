/- The plain laws of the pens: bits; PenFresh. -/
import Derived.Test.YtlickgoakjldoaaDoorPenLaw5
set_option linter.unusedVariables false
set_option linter.unusedSimpArgs false
namespace Go.SH

theorem act_one (p : T3) {n : Int} (h : n ≠ 38 ∧ n ≠ 48) (r : List Int) : act p n r = some (one p n, 0) := by
  unfold one
  rcases ways n with h | h | h | h | h | h | h
  · subst h; rfl
  · rw [act_set p h, act_set p h]
  · subst h; rfl
  · rw [act_clr p h, act_clr p h]
  · rw [act_hue p h.1 h.2, act_hue p h.1 h.2]
  · omega
  · rw [act_no p h, act_no p h]
theorem applyL_cons (p : T3) {n : Int} (h : n ≠ 38 ∧ n ≠ 48) (r : List Int) : applyL p (n :: r) = applyL (one p n) r := by
  rw [applyL, act_one p h]; rfl
theorem colS_r (l : List Int) : 0 ≤ (colS l).2 ∧ (colS l).2 ≤ 256 := by
  match l with
  | [] => simp [colS]
  | [x] => simp [colS]
  | [x, y] =>
    simp only [colS]
    cases h : decide (x = 5) && isB y
    · simp
    · simp [isB] at h ⊢; omega
  | [x, y, z] =>
    simp only [colS]
    cases h : decide (x = 5) && isB y
    · simp
    · simp [isB] at h ⊢; omega
  | x :: y :: z :: w :: r =>
    simp only [colS]
    cases h : decide (x = 5) && isB y
    · cases h2 : decide (x = 2) && (isB y && isB z && isB w)
      · simp
      · simp [isB] at h2 ⊢
        have a1 : 0 ≤ 6 * y / 256 ∧ 6 * y / 256 ≤ 5 := by omega
        have a2 : 0 ≤ 6 * z / 256 ∧ 6 * z / 256 ≤ 5 := by omega
        have a3 : 0 ≤ 6 * w / 256 ∧ 6 * w / 256 ≤ 5 := by omega
        omega
    · simp [isB] at h ⊢; omega
theorem v2_eq (a b c : Int) : pen_Apply_v2 a b c = some () := by
  unfold pen_Apply_v2; rw [pen_fine_eq]; cases mayB a b c <;> rfl
def Fine (p : T3) : Prop := mayB p.1 p.2.1 p.2.2 = true
theorem act_fine {p q : T3} {n t : Int} {r : List Int} (hp : Fine p) (h : act p n r = some (q, t)) : Fine q := by
  by_cases h8 : n ≠ 38 ∧ n ≠ 48
  · rw [act_one p h8] at h
    simp only [Option.some.injEq, Prod.mk.injEq] at h
    rw [← h.1]; exact (one_spec p n hp).1
  · rw [act_col p (by omega)] at h
    cases hc : (colS r).1 == 0 <;> rw [hc] at h
    · simp only [cond_false, Option.some.injEq, Prod.mk.injEq] at h
      rw [← h.1]
      exact paint_may hp (colS_r r)
    · simp at h
theorem applyL_fine : ∀ (m : Nat) (l : List Int) (p : T3), l.length ≤ m → Fine p → Fine (applyL p l)
  | 0, l, p, hl, hp => by
    obtain rfl : l = [] := List.eq_nil_of_length_eq_zero (by omega)
    rw [applyL]; exact hp
  | m + 1, [], p, hl, hp => by rw [applyL]; exact hp
  | m + 1, n :: r, p, hl, hp => by
    rw [applyL]
    cases h : act p n r with
    | none => exact hp
    | some qt =>
      obtain ⟨q, t⟩ := qt
      exact applyL_fine m _ q (by simp at hl ⊢; omega) (act_fine hp h)
theorem applyL_app (b : List Int) : ∀ (a : List Int) (p : T3), (∀ n ∈ a, n ≠ 38 ∧ n ≠ 48) → applyL p (a ++ b) = applyL (applyL p a) b
  | [], p, _ => by rw [List.nil_append]; congr 1; rw [applyL]
  | n :: r, p, h => by
    rw [List.cons_append, applyL_cons p (h n (by simp)), applyL_cons p (h n (by simp))]
    exact applyL_app b r _ fun m hm => h m (by simp [hm])

theorem fineS_fine (p : T3) : Fine (fineS p) := by unfold Fine fineS; cases h : mayB p.1 p.2.1 p.2.2; rfl; exact h
theorem fineS_eq {p : T3} (h : Fine p) : fineS p = p := by unfold fineS; rw [h]; rfl
theorem Apply_eq (p : T3) (l : List Int) (hb : l.length < 4611686018427387904) (hne : l ≠ []) : pen_Apply p.1 p.2.1 p.2.2 l = some (applyL (fineS p) l) := by
  rw [pen_Apply_eq _ _ _ _ hb]
  cases l with
  | nil => exact absurd rfl hne
  | cons n r => rfl

theorem fresh_loop (l : List Int) (hl : l.length ≤ 1000) : ∀ (m i : Nat), l.length - i = m → i ≤ l.length →
    loopO (fun x13 => oriellaw12_PenFresh_loop1 l x13) (i : Int) = some (bif (l.drop i).all (fun n => n != 38 && n != 48) then .inl () else .inr ()) := by
  intro m
  induction m with
  | zero =>
    intro i hm hi
    have : i = l.length := by omega
    subst this
    refine (loopO_done (r := .inl ()) ?_).trans (by simp)
    unfold oriellaw12_PenFresh_loop1
    rw [dec_f (by omega)]; rfl
  | succ m ih =>
    intro i hm hi
    have hlt : i < l.length := by omega
    have ih' := ih (i + 1) (by omega) (by omega)
    have hs : oriellaw12_PenFresh_loop1 l (i : Int) = some (bif l[i] != 38 && l[i] != 48 then .inr ((i + 1 : Nat) : Int) else .inl (.inr ())) := by
      have e2 : IntKind.i64.wrap ((i : Int) + 1) = ((i + 1 : Nat) : Int) := by rw [w64]; omega
      unfold oriellaw12_PenFresh_loop1
      rw [dec_t (by omega), cond_true, getI_nat, List.getElem?_eq_getElem hlt, Option.bind_some, e2]
      cases h1 : (l[i] == 38) <;> cases h2 : (l[i] == 48) <;> simp [bne, h1, h2]
    rw [loopO_eq, hs, List.drop_eq_getElem_cons hlt, List.all_cons]
    cases l[i] != 38 && l[i] != 48 with
    | true => exact ih'
    | false => rfl

theorem lenq (l : List Int) (h : l.length ≤ 10000) : ((l.length : Int)) * 8 ≤ 140737488355328 := by omega
theorem len61 (l : List Int) (h : l.length ≤ 10000) : l.length < 4611686018427387904 := by omega
theorem PenFresh_eq (a b c d e f : Int) (l r : List Int) : oriellaw12_PenFresh a b c d e f l r = some true := by
  unfold oriellaw12_PenFresh
  rw [known_eq, Option.bind_some]
  simp only [Bool.not_true, cond_false]
  by_cases h1 : ((l.length : Int)) > 500
  · rw [dec_t h1]; simp only [cond_true, Option.bind_some]
  by_cases h2 : ((r.length : Int)) > 500
  · rw [dec_f h1, dec_t h2]; simp only [cond_true, cond_false, Option.bind_some]
  rw [dec_f h1, dec_f h2, cond_false, Option.bind_some, cond_false]
  have hl0 : ([0] ++ l).length ≤ 10000 := by rw [List.length_append, List.length_singleton]; omega
  rw [req_pos (lenq _ hl0)]
  have e1 := Apply_eq (a, b, c) ([0] ++ l) (len61 _ hl0) (by simp)
  have e2 := Apply_eq (d, e, f) ([0] ++ l) (len61 _ hl0) (by simp)
  have e0 : ∀ p, applyL p ([0] ++ l) = applyL (0, 0, 0) l := fun p => by
    rw [List.singleton_append, applyL_cons p (by omega)]; rfl
  rw [e0] at e1 e2
  simp only at e1 e2
  rw [e1, e2]
  generalize applyL (0, 0, 0) l = z
  obtain ⟨x, y, w⟩ := z
  simp only [Option.bind_some, BEq.rfl, Bool.and_self, Bool.not_true, cond_false]
  have hf := fresh_loop l (by omega) _ 0 rfl (Nat.zero_le _)
  simp only [Int.natCast_zero, List.drop_zero] at hf
  rw [hf, Option.bind_some]
  cases hall : l.all (fun n => n != 38 && n != 48) with
  | false => simp only [cond_false]
  | true =>
    have hno : ∀ n ∈ l, n ≠ 38 ∧ n ≠ 48 := fun n hn => by simpa using List.all_eq_true.1 hall n hn
    simp only [cond_true]
    by_cases n1 : l = []
    · subst n1; rw [v2_eq]; simp
    by_cases n2 : r = []
    · subst n2; rw [v2_eq]; cases l with
      | nil => exact absurd rfl n1
      | cons x y =>
        have e : (((x :: y).length : Int) == 0) = false := by simp; omega
        rw [e]; simp
    have m1 : (((l.length : Int) : Int) == 0) = false := by simp [n1]
    have m2 : (((r.length : Int) : Int) == 0) = false := by simp [n2]
    rw [m1, m2]
    simp only [cond_false, Option.bind_some]
    have f1 := Apply_eq (a, b, c) l (by omega) n1
    have hl1 : (l ++ r).length ≤ 10000 := by rw [List.length_append]; omega
    have f2 := Apply_eq (a, b, c) (([] : List Int) ++ l ++ r) (len61 _ hl1) (by simp [n1])
    have f3 := Apply_eq (applyL (fineS (a, b, c)) l) r (by omega) n2
    rw [fineS_eq (applyL_fine _ l _ (Nat.le_refl _) (fineS_fine _))] at f3
    rw [List.nil_append, applyL_app r l _ hno] at f2
    simp only at f1 f2
    rw [f1]
    generalize applyL (fineS (a, b, c)) l = q at *
    obtain ⟨q1, q2, q3⟩ := q
    simp only [Option.bind_some, List.nil_append] at f3 ⊢
    rw [f3, f2, Option.bind_some, req_pos (lenq _ (by omega)), req_pos (lenq _ hl1)]
    generalize applyL (q1, q2, q3) r = s
    obtain ⟨s1, s2, s3⟩ := s
    simp
end Go.SH
