/- The plain laws of the pens: PenBack. -/
import Derived.Test.YtlickgoakjldoaaDoorPenLaw7
set_option linter.unusedVariables false
set_option linter.unusedSimpArgs false
namespace Go.SH

theorem andNot_nat {a b : Nat} (ha : a < 256) (hb : b < 256) : ∃ X : Nat, ibits .andNot .i64 (a : Int) (b : Int) = (X : Int) ∧ X < 256 ∧ ∀ k, k < 8 → X.testBit k = (a.testBit k && !b.testBit k) := by
  refine ⟨(BitVec.ofInt 64 (a : Int) &&& ~~~ BitVec.ofInt 64 (b : Int)).toNat, ?_, ?_, fun k hk => ?_⟩
  · have hle : (BitVec.ofInt 64 (a : Int) &&& ~~~ BitVec.ofInt 64 (b : Int)).toNat < 256 := by
      rw [BitVec.toNat_and]
      refine Nat.lt_of_le_of_lt Nat.and_le_left ?_
      rw [BitVec.ofInt_natCast, BitVec.toNat_ofNat, Nat.mod_eq_of_lt (by omega)]; exact ha
    show IntKind.i64.wrap ((BitVec.ofInt 64 (a : Int) &&& ~~~ BitVec.ofInt 64 (b : Int)).toNat : Int) = _
    generalize (BitVec.ofInt 64 (a : Int) &&& ~~~ BitVec.ofInt 64 (b : Int)).toNat = X at *
    rw [w64]; omega
  · rw [BitVec.toNat_and]
    refine Nat.lt_of_le_of_lt Nat.and_le_left ?_
    rw [BitVec.ofInt_natCast, BitVec.toNat_ofNat, Nat.mod_eq_of_lt (by omega)]; exact ha
  · rw [BitVec.testBit_toNat, BitVec.getLsbD_and, BitVec.getLsbD_not, BitVec.ofInt_natCast, BitVec.ofInt_natCast, BitVec.getLsbD_ofNat, BitVec.getLsbD_ofNat]
    have : decide (k < 64) = true := dec_t (by omega)
    rw [this]; simp
/-- Has a some bit that b has not. -/
def some8 (a b : Int) : Bool := (B a 0 && !B b 0) || ((B a 1 && !B b 1) || ((B a 2 && !B b 2) || ((B a 3 && !B b 3) || ((B a 4 && !B b 4) || ((B a 5 && !B b 5) || ((B a 6 && !B b 6) || (B a 7 && !B b 7)))))))
theorem some8_all {a b : Int} (h : some8 a b = false) : ∀ k, k < 8 → (B a k && !B b k) = false := by
  simp only [some8, Bool.or_eq_false_iff] at h
  obtain ⟨h0, h1, h2, h3, h4, h5, h6, h7⟩ := h
  intro k hk
  match k, hk with
  | 0, _ => exact h0
  | 1, _ => exact h1
  | 2, _ => exact h2
  | 3, _ => exact h3
  | 4, _ => exact h4
  | 5, _ => exact h5
  | 6, _ => exact h6
  | 7, _ => exact h7
theorem some8_of {a b : Int} (h : ∀ k, k < 8 → (B a k && !B b k) = false) : some8 a b = false := by
  simp only [some8, Bool.or_eq_false_iff]
  exact ⟨h 0 (by omega), h 1 (by omega), h 2 (by omega), h 3 (by omega), h 4 (by omega), h 5 (by omega), h 6 (by omega), h 7 (by omega)⟩
theorem andNot_some {a b : Int} (ha : By a) (hb : By b) : (ibits .andNot .i64 a b != 0) = some8 a b := by
  obtain ⟨n, rfl⟩ := ha.fin
  obtain ⟨m, rfl⟩ := hb.fin
  obtain ⟨X, h1, h2, h3⟩ := andNot_nat n.isLt m.isLt
  rw [h1]
  cases hs : some8 (n.val : Nat) (m.val : Nat) with
  | false =>
    have : X = 0 := by
      apply Nat.eq_of_testBit_eq
      intro i
      rw [Nat.zero_testBit]
      by_cases hi : i < 8
      · rw [h3 i hi]; exact some8_all hs i hi
      · exact Nat.testBit_lt_two_pow (Nat.lt_of_lt_of_le h2 (show 2 ^ 8 ≤ 2 ^ i from Nat.pow_le_pow_right (by omega) (by omega)))
    rw [this]; rfl
  | true =>
    by_cases hX : X = 0
    · subst hX
      have := some8_of (a := (n.val : Nat)) (b := (m.val : Nat)) fun k hk => by
        have := h3 k hk
        rw [Nat.zero_testBit] at this
        exact this.symm
      rw [this] at hs; simp at hs
    · simp; omega
theorem gone_eq {p q : T3} (hp : Fine p) (hq : Fine q) : gone p q = (some8 p.1 q.1 || (lost p.2.1 q.2.1 || lost p.2.2 q.2.2)) := by
  unfold gone; rw [andNot_some (may_r.1 hp).1 (may_r.1 hq).1]
theorem gone_sub {p q : T3} (hp : Fine p) (hq : Fine q) (h : gone p q = false) (k : Fin 8) (hb : B p.1 k.val = true) : B q.1 k.val = true := by
  rw [gone_eq hp hq, Bool.or_eq_false_iff] at h
  have := some8_all h.1 k.val k.isLt
  rw [hb] at this; simpa using this
theorem apply_turn' {p q : T3} (hp : Fine p) (hq : Fine q) (hne : p ≠ q) : applyL p (turnS p q) = q := apply_turn p q hp hq hne fun h k => gone_sub hp hq h k
theorem turn_ne {p q : T3} (hp : Fine p) (hq : Fine q) (hne : p ≠ q) : turnS p q ≠ [] := fun h => by
  have := apply_turn' hp hq hne
  rw [h, applyL] at this
  exact hne this
theorem turn_same (p : T3) : turnS p p = [] := by unfold turnS; simp
theorem turn_len15 {p q : T3} (hp : Fine p) (hq : Fine q) : (turnS p q).length ≤ 15 := by
  unfold turnS
  cases (p.1 == q.1) && (p.2.1 == q.2.1 && p.2.2 == q.2.2)
  · simp only [cond_false, List.length_append]
    have h1 := bif_len (c := gone p q) (a := [0]) (n := 1) (by simp)
    have hb : By (bif gone p q then (0, 0, 0) else p : T3).1 := by
      cases gone p q
      · exact (may_r.1 hp).1
      · exact ⟨Int.le_refl 0, show (0 : Int) ≤ 255 by decide⟩
    have h2 := obs_len q.1 (bif gone p q then (0, 0, 0) else p).1 8 0
    rw [← tbs_obs (may_r.1 hq).1 hb] at h2
    have h3 := bif_len (c := q.2.1 != (bif gone p q then (0, 0, 0) else p).2.1) (show_len 30 q.2.1)
    have h4 := bif_len (c := q.2.2 != (bif gone p q then (0, 0, 0) else p).2.2) (show_len 40 q.2.2)
    omega
  · simp

theorem PenBack_eq (a b c d e f : Int) : oriellaw12_PenBack a b c d e f = some true := by
  unfold oriellaw12_PenBack
  rw [known_eq, Option.bind_some, Bool.not_true, cond_false, pen_May_eq, pen_May_eq]
  cases hp : mayB a b c with
  | false => rfl
  | true =>
    cases hq : mayB d e f with
    | false => rfl
    | true =>
      have h1 : Fine (a, b, c) := hp
      have h2 : Fine (d, e, f) := hq
      rw [Turn_eq, fineS_eq h1, fineS_eq h2]
      simp only [Option.bind_some, Bool.not_true, cond_false]
      have hl := turn_len15 h1 h2
      rw [dec_f (show ¬ ((turnS (a, b, c) (d, e, f)).length : Int) > 15 by omega), cond_false, Option.bind_some]
      by_cases hne : (a, b, c) = (d, e, f)
      · simp only [Prod.mk.injEq] at hne
        obtain ⟨rfl, rfl, rfl⟩ := hne
        rw [turn_same]; simp
      · have hn := turn_ne h1 h2 hne
        have h3 := Apply_eq (a, b, c) (turnS (a, b, c) (d, e, f)) (by omega) hn
        rw [fineS_eq h1, apply_turn' h1 h2 hne] at h3
        have hz : (((turnS (a, b, c) (d, e, f)).length : Int) == 0) = false := by simp [hn]
        have hs : ((a == d) && ((b == e) && ((c == f) && true))) = false := by
          cases h : (a == d) && ((b == e) && ((c == f) && true))
          · rfl
          · simp at h; exact absurd (by simp [h]) hne
        simp only at h3
        rw [h3, hz, hs]
        simp
end Go.SH
