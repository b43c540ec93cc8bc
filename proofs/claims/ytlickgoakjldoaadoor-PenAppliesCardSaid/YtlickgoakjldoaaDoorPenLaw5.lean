/- The plain laws of the pens: what one number asks. -/
import Derived.Test.YtlickgoakjldoaaDoorPenLaw4
set_option linter.unusedVariables false
set_option linter.unusedSimpArgs false
namespace Go.SH

theorem act_0 (p : T3) (r : List Int) : act p 0 r = some ((0, 0, 0), 0) := rfl
theorem act_set (p : T3) {n : Int} (h : 1 ≤ n ∧ n ≤ 9) (r : List Int) : act p n r = some ((ibits .or .i64 p.1 (bitv (n - 1).toNat), p.2.1, p.2.2), 0) := by
  have h0 : (n == 0) = false := by simp; omega
  unfold act
  rw [h0, cond_false, dec_t h.1, dec_t h.2]; rfl
theorem act_22 (p : T3) (r : List Int) : act p 22 r = some ((ibits .andNot .i64 p.1 3, p.2.1, p.2.2), 0) := rfl
theorem act_clr (p : T3) {n : Int} (h : 23 ≤ n ∧ n ≤ 29) (r : List Int) : act p n r = some ((ibits .andNot .i64 p.1 (bitv (n - 21).toNat), p.2.1, p.2.2), 0) := by
  have h0 : (n == 0) = false := by simp; omega
  have h1 : (n == 22) = false := by simp; omega
  unfold act
  rw [h0, cond_false, dec_t (show 1 ≤ n by omega), dec_f (show ¬ n ≤ 9 by omega), h1, dec_t h.1, dec_t h.2]; rfl
theorem grp_no {n : Int} (h : n < 30 ∨ (50 ≤ n ∧ n < 90) ∨ 98 ≤ n) (h2 : n < 100 ∨ 108 ≤ n) : grp n = (false, 0) := by
  unfold grp
  rw [if_neg (by omega), if_neg (by omega), if_neg (by omega), if_neg (by omega)]
theorem act_no (p : T3) {n : Int} (h : n < 0 ∨ (9 < n ∧ n < 22) ∨ (50 ≤ n ∧ n < 90) ∨ (98 ≤ n ∧ n < 100) ∨ 108 ≤ n) (r : List Int) : act p n r = some (p, 0) := by
  have hg : grp n = (false, 0) := grp_no (by omega) (by omega)
  have h0 : (n == 0) = false := by simp; omega
  have h1 : (n == 22) = false := by simp; omega
  have h2 : (decide (1 ≤ n) && decide (n ≤ 9)) = false := by simp; omega
  have h3 : (decide (23 ≤ n) && decide (n ≤ 29)) = false := by simp; omega
  unfold act
  rw [h0, h1, h2, h3, hg]; rfl
/-- The plane and the colour of a number that asks for one alone. -/
def hue (n : Int) : Int × Int :=
  if n = 39 then (30, 0) else if n = 49 then (40, 0) else if n < 40 then (30, n - 29) else if n < 50 then (40, n - 39) else if n < 98 then (30, n - 81) else (40, n - 91)
theorem act_hue (p : T3) {n : Int} (h : (30 ≤ n ∧ n < 50) ∨ (90 ≤ n ∧ n < 98) ∨ (100 ≤ n ∧ n < 108)) (h8 : n ≠ 38 ∧ n ≠ 48) (r : List Int) : act p n r = some (paint (hue n).1 (hue n).2 p, 0) := by
  have h0 : (n == 0) = false := by simp; omega
  have h1 : (n == 22) = false := by simp; omega
  have h2 : (decide (1 ≤ n) && decide (n ≤ 9)) = false := by simp; omega
  have h3 : (decide (23 ≤ n) && decide (n ≤ 29)) = false := by simp; omega
  unfold act
  rw [h0, h1, h2, h3]
  simp only [cond_false]
  by_cases a : n < 40
  · have hg : grp n = (true, 30) := by unfold grp; rw [if_pos (by omega)]
    have e8 : (n == 30 + 8) = false := by simp; omega
    rw [hg]; simp only [Bool.true_and, e8, cond_false]
    by_cases b : n = 39
    · subst b; rfl
    · have e9 : (n == 30 + 9) = false := by simp; omega
      rw [e9, dec_t (show n < 90 by omega)]
      unfold hue; rw [if_neg b, if_neg (by omega), if_pos a]
      simp only [cond_false, cond_true]; congr 3; omega
  · by_cases a2 : n < 50
    · have hg : grp n = (true, 40) := by unfold grp; rw [if_neg (by omega), if_pos (by omega)]
      have e8 : (n == 40 + 8) = false := by simp; omega
      rw [hg]; simp only [Bool.true_and, e8, cond_false]
      by_cases b : n = 49
      · subst b; rfl
      · have e9 : (n == 40 + 9) = false := by simp; omega
        rw [e9, dec_t (show n < 90 by omega)]
        unfold hue; rw [if_neg (by omega), if_neg b, if_neg a, if_pos a2]
        simp only [cond_false, cond_true]; congr 3; omega
    · by_cases a3 : n < 98
      · have hg : grp n = (true, 30) := by unfold grp; rw [if_neg (by omega), if_neg (by omega), if_pos (by omega)]
        have e8 : (n == 30 + 8) = false := by simp; omega
        have e9 : (n == 30 + 9) = false := by simp; omega
        rw [hg]; simp only [Bool.true_and, e8, e9, cond_false, dec_f (show ¬ n < 90 by omega)]
        unfold hue; rw [if_neg (by omega), if_neg (by omega), if_neg a, if_neg a2, if_pos a3]
        simp only [cond_false, cond_true]; congr 3; omega
      · have hg : grp n = (true, 40) := by unfold grp; rw [if_neg (by omega), if_neg (by omega), if_neg (by omega), if_pos (by omega)]
        have e8 : (n == 40 + 8) = false := by simp; omega
        have e9 : (n == 40 + 9) = false := by simp; omega
        rw [hg]; simp only [Bool.true_and, e8, e9, cond_false, dec_f (show ¬ n < 90 by omega)]
        unfold hue; rw [if_neg (by omega), if_neg (by omega), if_neg a, if_neg a2, if_neg a3]
        simp only [cond_false, cond_true]; congr 3; omega
theorem act_col (p : T3) {n : Int} (h : n = 38 ∨ n = 48) (r : List Int) : act p n r = bif (colS r).1 == 0 then none else some (paint (n - 8) (colS r).2 p, (colS r).1) := by
  rcases h with rfl | rfl <;> rfl
theorem hue_r {n : Int} (h : (30 ≤ n ∧ n < 50) ∨ (90 ≤ n ∧ n < 98) ∨ (100 ≤ n ∧ n < 108)) (h8 : n ≠ 38 ∧ n ≠ 48) : 0 ≤ (hue n).2 ∧ (hue n).2 ≤ 16 := by
  unfold hue
  repeat' split
  all_goals simp only
  all_goals omega
/-- The six ways of a number. -/
theorem ways (n : Int) : n = 0 ∨ (1 ≤ n ∧ n ≤ 9) ∨ n = 22 ∨ (23 ≤ n ∧ n ≤ 29) ∨ (((30 ≤ n ∧ n < 50) ∨ (90 ≤ n ∧ n < 98) ∨ (100 ≤ n ∧ n < 108)) ∧ n ≠ 38 ∧ n ≠ 48) ∨ (n = 38 ∨ n = 48) ∨
    (n < 0 ∨ (9 < n ∧ n < 22) ∨ (50 ≤ n ∧ n < 90) ∨ (98 ≤ n ∧ n < 100) ∨ 108 ≤ n) := by omega

theorem or_all : ∀ b : Fin 256, ∀ i : Fin 9, (decide (0 ≤ ibits .or .i64 b.val (bitv i.val)) && decide (ibits .or .i64 b.val (bitv i.val) ≤ 255) && (ibits .or .i64 (ibits .or .i64 b.val (bitv i.val)) (bitv i.val) == ibits .or .i64 b.val (bitv i.val))) = true := by decide +kernel
theorem clr_all : ∀ b : Fin 256, ∀ i : Fin 9, (decide (0 ≤ ibits .andNot .i64 b.val (bitv i.val)) && decide (ibits .andNot .i64 b.val (bitv i.val) ≤ 255) && (ibits .andNot .i64 (ibits .andNot .i64 b.val (bitv i.val)) (bitv i.val) == ibits .andNot .i64 b.val (bitv i.val))) = true := by decide +kernel
theorem clr3_all : ∀ b : Fin 256, (decide (0 ≤ ibits .andNot .i64 b.val 3) && decide (ibits .andNot .i64 b.val 3 ≤ 255) && (ibits .andNot .i64 (ibits .andNot .i64 b.val 3) 3 == ibits .andNot .i64 b.val 3)) = true := by decide +kernel
theorem fin_of {P : Int → Prop} (h : ∀ b : Fin 256, P b.val) {b : Int} (hb : 0 ≤ b ∧ b ≤ 255) : P b := by
  obtain ⟨n, rfl⟩ : ∃ n : Nat, b = (n : Int) := ⟨b.toNat, by omega⟩
  exact h ⟨n, by omega⟩
theorem or_r {b : Int} (hb : 0 ≤ b ∧ b ≤ 255) {i : Nat} (hi : i < 9) : (0 ≤ ibits .or .i64 b (bitv i) ∧ ibits .or .i64 b (bitv i) ≤ 255) ∧ ibits .or .i64 (ibits .or .i64 b (bitv i)) (bitv i) = ibits .or .i64 b (bitv i) := by
  obtain ⟨m, rfl⟩ : ∃ m : Nat, b = (m : Int) := ⟨b.toNat, by omega⟩
  have := or_all ⟨m, by omega⟩ ⟨i, hi⟩
  simpa using this
theorem clr_r {b : Int} (hb : 0 ≤ b ∧ b ≤ 255) {i : Nat} (hi : i < 9) : (0 ≤ ibits .andNot .i64 b (bitv i) ∧ ibits .andNot .i64 b (bitv i) ≤ 255) ∧ ibits .andNot .i64 (ibits .andNot .i64 b (bitv i)) (bitv i) = ibits .andNot .i64 b (bitv i) := by
  obtain ⟨m, rfl⟩ : ∃ m : Nat, b = (m : Int) := ⟨b.toNat, by omega⟩
  have := clr_all ⟨m, by omega⟩ ⟨i, hi⟩
  simpa using this
theorem clr3_r {b : Int} (hb : 0 ≤ b ∧ b ≤ 255) : (0 ≤ ibits .andNot .i64 b 3 ∧ ibits .andNot .i64 b 3 ≤ 255) ∧ ibits .andNot .i64 (ibits .andNot .i64 b 3) 3 = ibits .andNot .i64 b 3 := by
  obtain ⟨m, rfl⟩ : ∃ m : Nat, b = (m : Int) := ⟨b.toNat, by omega⟩
  have := clr3_all ⟨m, by omega⟩
  simpa using this

theorem may_r {p : T3} : mayB p.1 p.2.1 p.2.2 = true ↔ (0 ≤ p.1 ∧ p.1 ≤ 255) ∧ (0 ≤ p.2.1 ∧ p.2.1 ≤ 256) ∧ (0 ≤ p.2.2 ∧ p.2.2 ≤ 256) := by
  simp [mayB, and_assoc]
theorem fine_of {p : T3} (h : mayB p.1 p.2.1 p.2.2 = true) : (bif mayB p.1 p.2.1 p.2.2 then (p.1, p.2.1, p.2.2) else (0, 0, 0)) = p := by rw [h]; rfl

def one (p : T3) (n : Int) : T3 := match act p n [] with | none => p | some (q, _) => q
theorem applyL_one (p : T3) (n : Int) : applyL p [n] = one p n := by
  unfold one
  rw [applyL]
  cases act p n [] with
  | none => rfl
  | some qt => obtain ⟨q, t⟩ := qt; simp [applyL]

def Near (p q : T3) : Prop := (q.2.1 = p.2.1 ∧ q.2.2 = p.2.2) ∨ (q.1 = p.1 ∧ q.2.1 = p.2.1) ∨ (q.1 = p.1 ∧ q.2.2 = p.2.2)
theorem paint_near (b c : Int) (p : T3) : Near p (paint b c p) := by unfold paint; cases b == 30 <;> simp [Near]
theorem paint_may {b c : Int} {p : T3} (h : mayB p.1 p.2.1 p.2.2 = true) (hc : 0 ≤ c ∧ c ≤ 256) : mayB (paint b c p).1 (paint b c p).2.1 (paint b c p).2.2 = true := by
  rw [may_r] at h ⊢
  unfold paint; cases b == 30
  · exact ⟨h.1, h.2.1, hc⟩
  · exact ⟨h.1, hc, h.2.2⟩
theorem paint_idem (b c : Int) (p : T3) : paint b c (paint b c p) = paint b c p := by unfold paint; cases b == 30 <;> rfl

theorem one_spec (p : T3) (n : Int) (hp : mayB p.1 p.2.1 p.2.2 = true) :
    mayB (one p n).1 (one p n).2.1 (one p n).2.2 = true ∧ one (one p n) n = one p n ∧ (n = 0 → one p n = (0, 0, 0)) ∧ (n ≠ 0 → Near p (one p n)) ∧ (¬ ((0 < n ∧ n < 50) ∨ (90 ≤ n ∧ n < 108)) → n ≠ 0 → one p n = p) := by
  have hr := may_r.1 hp
  rcases ways n with h | h | h | h | h | h | h
  · subst h
    refine ⟨rfl, rfl, fun _ => rfl, fun h => absurd rfl h, fun _ h => absurd rfl h⟩
  · have e : ∀ q : T3, one q n = (ibits .or .i64 q.1 (bitv (n - 1).toNat), q.2.1, q.2.2) := fun q => by unfold one; rw [act_set q h]
    have hi := or_r hr.1 (i := (n - 1).toNat) (by omega)
    rw [e p, e]
    refine ⟨may_r.2 ⟨hi.1, hr.2⟩, by rw [hi.2], by omega, fun _ => .inl ⟨rfl, rfl⟩, by omega⟩
  · have e : ∀ q : T3, one q n = (ibits .andNot .i64 q.1 3, q.2.1, q.2.2) := fun q => by unfold one; rw [h, act_22 q]
    have hi := clr3_r hr.1
    rw [e p, e]
    refine ⟨may_r.2 ⟨hi.1, hr.2⟩, by rw [hi.2], by omega, fun _ => .inl ⟨rfl, rfl⟩, by omega⟩
  · have e : ∀ q : T3, one q n = (ibits .andNot .i64 q.1 (bitv (n - 21).toNat), q.2.1, q.2.2) := fun q => by unfold one; rw [act_clr q h]
    have hi := clr_r hr.1 (i := (n - 21).toNat) (by omega)
    rw [e p, e]
    refine ⟨may_r.2 ⟨hi.1, hr.2⟩, by rw [hi.2], by omega, fun _ => .inl ⟨rfl, rfl⟩, by omega⟩
  · have e : ∀ q : T3, one q n = paint (hue n).1 (hue n).2 q := fun q => by unfold one; rw [act_hue q h.1 h.2]
    have hh := hue_r h.1 h.2
    rw [e p, e]
    exact ⟨paint_may hp (by omega), paint_idem _ _ _, by omega, fun _ => paint_near _ _ _, by omega⟩
  · have e : ∀ q : T3, one q n = q := fun q => by unfold one; rw [act_col q h]; rfl
    rw [e p, e]
    exact ⟨hp, rfl, by omega, fun _ => .inl ⟨rfl, rfl⟩, fun _ _ => rfl⟩
  · have e : ∀ q : T3, one q n = q := fun q => by unfold one; rw [act_no q h]
    rw [e p, e]
    exact ⟨hp, rfl, by omega, fun _ => .inl ⟨rfl, rfl⟩, fun _ _ => rfl⟩

theorem pen_Apply_one (p : T3) (n : Int) (hp : mayB p.1 p.2.1 p.2.2 = true) : pen_Apply p.1 p.2.1 p.2.2 [n] = some (one p n) := by
  rw [pen_Apply_eq _ _ _ _ (by simp), fine_of hp, applyL_one]; rfl

theorem PenOne_eq (a b c n : Int) : oriellaw12_PenOne a b c n = some true := by
  unfold oriellaw12_PenOne
  rw [known_eq, Option.bind_some, pen_May_eq, Option.bind_some]
  simp only [Bool.not_true, cond_false]
  cases hm : mayB a b c with
  | false => rfl
  | true =>
    obtain ⟨s1, s2, s3, s4, s5⟩ := one_spec (a, b, c) n hm
    have h1 := pen_Apply_one (a, b, c) n hm
    have h2 := pen_Apply_one (one (a, b, c) n) n s1
    rw [s2] at h2
    simp only at h1
    rw [h1]
    simp only [Bool.not_true, cond_false, Option.bind_some]
    generalize one (a, b, c) n = q at *
    obtain ⟨x, y, z⟩ := q
    simp only at h2 ⊢
    simp only [h2, Option.bind_some]
    by_cases h0 : n = 0
    · subst h0
      have := s3 rfl
      simp only [Prod.mk.injEq] at this
      obtain ⟨rfl, rfl, rfl⟩ := this
      cases (0 : Int) != a <;> cases (0 : Int) != b <;> cases (0 : Int) != c <;> rfl
    · have hn : (n == 0) = false := by simpa using h0
      have s4' := s4 h0
      simp only [Near] at s4'
      simp only [hn, cond_false, BEq.rfl, Bool.and_self, Bool.and_true]
      have hx9 : ((bif (decide (n > 0)) then (bif (decide (n < 50)) then (some true) else (bif (decide (n ≥ 90)) then (some (decide (n < 108))) else (some false))) else (bif (decide (n ≥ 90)) then (some (decide (n < 108))) else (some false)) : Option (Bool))) =
          some (decide ((0 < n ∧ n < 50) ∨ (90 ≤ n ∧ n < 108))) := by
        by_cases g1 : n > 0 <;> by_cases g2 : n < 50 <;> by_cases g3 : n ≥ 90 <;> by_cases g4 : n < 108 <;> simp [g1, g2, g3, g4] <;> omega
      simp only [hx9, Option.bind_some]
      by_cases hin : (0 < n ∧ n < 50) ∨ (90 ≤ n ∧ n < 108)
      · rw [dec_t hin]
        rcases s4' with ⟨rfl, rfl⟩ | ⟨rfl, rfl⟩ | ⟨rfl, rfl⟩
        · cases hx : x != a <;> simp <;> decide
        · cases hx : z != c <;> simp <;> decide
        · cases hx : y != b <;> simp <;> decide
      · rw [dec_f hin]
        have := s5 hin h0
        simp only [Prod.mk.injEq] at this
        obtain ⟨rfl, rfl, rfl⟩ := this
        simp
end Go.SH
