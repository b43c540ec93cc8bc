/- The plain laws of the pens: bits; what Turn tells makes the other pen. -/
import Derived.Test.YtlickgoakjldoaaDoorPenLaw6
set_option linter.unusedVariables false
set_option linter.unusedSimpArgs false
namespace Go.SH

def B (b : Int) (k : Nat) : Bool := b.toNat.testBit k
def num : Nat → Int
  | 0 => 1 | 1 => 2 | 2 => 3 | 3 => 4 | 4 => 5 | 5 => 7 | 6 => 8 | _ => 9
def place : Nat → Nat
  | 0 => 0 | 1 => 1 | 2 => 2 | 3 => 3 | 4 => 4 | 5 => 6 | 6 => 7 | _ => 8
theorem bit_and : ∀ b : Fin 256, ∀ k : Fin 8, (ibits .and .i64 (bitv (place k.val)) b.val == (bif B b.val k.val then bitv (place k.val) else 0)) = true := by decide +kernel
theorem bit_not : ∀ b : Fin 256, ∀ k : Fin 8, (ibits .andNot .i64 (bitv (place k.val)) b.val != 0) = !B b.val k.val := by decide +kernel
theorem bit_not0 : ∀ b : Fin 256, (ibits .andNot .i64 0 b.val != 0) = false := by decide +kernel
theorem bit_5 : ∀ b : Fin 256, ibits .and .i64 (bitv 5) b.val = 0 := by decide +kernel
theorem bit_or : ∀ b : Fin 256, ∀ k j : Fin 8, B (ibits .or .i64 b.val (bitv (place k.val))) j.val = (B b.val j.val || (j == k)) := by decide +kernel

theorem num_place : ∀ k : Fin 8, ((place k.val : Nat) : Int) + 1 = num k.val := by decide
theorem pos_of {a b : Int} (hb : 0 ≤ b) (e : ¬ b = a) (h : a ≠ 0 → b ≠ 0) : 1 ≤ b := by
  by_cases z : a = 0
  · omega
  · have := h z; omega
/-- A byte. -/
def By (b : Int) : Prop := 0 ≤ b ∧ b ≤ 255
theorem By.fin {b : Int} (h : By b) : ∃ n : Fin 256, b = ((n.val : Nat) : Int) := ⟨⟨b.toNat, by have := h.1; have := h.2; omega⟩, by have := h.1; simp; omega⟩
theorem By.ext {x y : Int} (hx : By x) (hy : By y) (h : ∀ k : Fin 8, B x k.val = B y k.val) : x = y := by
  obtain ⟨n, rfl⟩ := hx.fin
  obtain ⟨m, rfl⟩ := hy.fin
  congr 1
  apply Nat.eq_of_testBit_eq
  intro i
  by_cases hi : i < 8
  · exact h ⟨i, hi⟩
  · have p : ∀ z : Fin 256, z.val.testBit i = false := fun z => Nat.testBit_lt_two_pow (Nat.lt_of_lt_of_le z.isLt (show 2 ^ 8 ≤ 2 ^ i from Nat.pow_le_pow_right (by omega) (by omega)))
    rw [p, p]
def ob (b b' : Int) (k : Nat) : List Int := bif B b k && !B b' k then [num k] else []
theorem tb_ob {b b' : Int} (hb : By b) (hb' : By b') (k : Fin 8) : tb b b' (place k.val) = ob b b' k.val := by
  obtain ⟨n, rfl⟩ := hb.fin
  obtain ⟨m, rfl⟩ := hb'.fin
  have h1 := eq_of_beq (bit_and n k)
  have h2 := bit_not m k
  have h3 := bit_not0 m
  have h4 := num_place k
  unfold tb ob
  rw [h1]
  cases B (n.val : Nat) k.val
  · rw [cond_false, h3]; rfl
  · rw [cond_true, h2, h4]; rfl
theorem tb_5 {b b' : Int} (hb : By b) (hb' : By b') : tb b b' 5 = [] := by
  obtain ⟨n, rfl⟩ := hb.fin
  obtain ⟨m, rfl⟩ := hb'.fin
  unfold tb
  rw [bit_5, bit_not0]; rfl
/-- The numbers of the bits to come. -/
def obs (b b' : Int) : Nat → Nat → List Int
  | 0, _ => []
  | m + 1, k => ob b b' k ++ obs b b' m (k + 1)
theorem tbs_obs {b b' : Int} (hb : By b) (hb' : By b') : tbs b b' 9 0 = obs b b' 8 0 := by
  have e := tb_ob hb hb'
  have e0 : tb b b' 0 = _ := e 0
  have e1 : tb b b' 1 = _ := e 1
  have e2 : tb b b' 2 = _ := e 2
  have e3 : tb b b' 3 = _ := e 3
  have e4 : tb b b' 4 = _ := e 4
  have e6 : tb b b' 6 = _ := e 5
  have e7 : tb b b' 7 = _ := e 6
  have e8 : tb b b' 8 = _ := e 7
  simp only [tbs, obs, Nat.zero_add, Nat.reduceAdd, e0, e1, e2, e3, e4, tb_5 hb hb', e6, e7, e8, List.nil_append]
  rfl
theorem obs_len (b b' : Int) : ∀ m k, (obs b b' m k).length ≤ m
  | 0, _ => by simp [obs]
  | m + 1, k => by
    have := obs_len b b' m (k + 1)
    simp only [obs, List.length_append, ob]
    cases B b k && !B b' k <;> simp <;> omega

theorem one_num (p : T3) (k : Fin 8) : one p (num k.val) = (ibits .or .i64 p.1 (bitv (place k.val)), p.2.1, p.2.2) := by
  have h : 1 ≤ num k.val ∧ num k.val ≤ 9 := by revert k; decide
  have h2 : (num k.val - 1).toNat = place k.val := by revert k; decide
  unfold one
  rw [act_set p h, h2]
theorem num_ne (k : Nat) : num k ≠ 38 ∧ num k ≠ 48 := by
  unfold num; split <;> omega

theorem apply_obs (b b' : Int) (rest : List Int) : ∀ (m k : Nat) (p : T3), k + m = 8 → Fine p →
    ∃ x, By x ∧ applyL p (obs b b' m k ++ rest) = applyL (x, p.2.1, p.2.2) rest ∧ ∀ j : Fin 8, B x j.val = (B p.1 j.val || (decide (k ≤ j.val) && (B b j.val && !B b' j.val)))
  | 0, k, p, hk, hp => by
    refine ⟨p.1, (may_r.1 hp).1, rfl, fun j => ?_⟩
    rw [dec_f (by omega)]; simp
  | m + 1, k, p, hk, hp => by
    have hj : ∀ (j : Fin 8), decide (k ≤ j.val) = (decide (j.val = k) || decide (k + 1 ≤ j.val)) := fun j => by
      by_cases h : j.val = k
      · simp [h]
      · by_cases h2 : k ≤ j.val
        · simp [h, h2]; omega
        · simp [h, h2]; omega
    cases hc : B b k && !B b' k with
    | false =>
      obtain ⟨x, h1, h2, h3⟩ := apply_obs b b' rest m (k + 1) p (by omega) hp
      refine ⟨x, h1, ?_, fun j => ?_⟩
      · rw [obs, ob, hc, cond_false, List.nil_append]; exact h2
      · rw [h3 j, hj j]
        by_cases h : j.val = k
        · rw [h, hc]; simp
        · simp [h]
    | true =>
      have hq := one_num p ⟨k, by omega⟩
      have hf := (one_spec p (num k) hp).1
      obtain ⟨x, h1, h2, h3⟩ := apply_obs b b' rest m (k + 1) (one p (num k)) (by omega) hf
      refine ⟨x, h1, ?_, fun j => ?_⟩
      · rw [obs, ob, hc, cond_true, List.append_assoc, List.singleton_append, applyL_cons p (num_ne k), h2]
        simp only at hq
        rw [hq]
      · rw [h3 j, hj j]
        simp only at hq
        rw [hq]
        obtain ⟨n, hn⟩ := By.fin (may_r.1 hp).1
        have ho := bit_or n ⟨k, by omega⟩ j
        simp only at ho ⊢
        rw [hn, ho]
        by_cases h : j.val = k
        · have : (j == ⟨k, by omega⟩) = true := by simp [Fin.ext_iff, h]
          rw [this, h, hc]; simp
        · have : (j == ⟨k, by omega⟩) = false := by simp [Fin.ext_iff, h]
          rw [this]; simp [h]

theorem apply_show (base c : Int) (hb : base = 30 ∨ base = 40) (hc : 1 ≤ c ∧ c ≤ 256) (p : T3) (rest : List Int) : applyL p (showS base c ++ rest) = applyL (paint base c p) rest := by
  unfold showS
  by_cases h1 : c ≤ 8
  · rw [dec_t h1, cond_true, List.singleton_append, applyL_cons p (by omega)]
    congr 1
    unfold one
    rw [act_hue p (by omega) (by omega)]
    simp only
    congr 1
    · unfold hue; repeat' split
      all_goals simp only
      all_goals omega
    · unfold hue; repeat' split
      all_goals simp only
      all_goals omega
  · rw [dec_f h1, cond_false]
    by_cases h2 : c ≤ 16
    · rw [dec_t h2, cond_true, List.singleton_append, applyL_cons p (by omega)]
      congr 1
      unfold one
      rw [act_hue p (by omega) (by omega)]
      simp only
      congr 1
      · unfold hue; repeat' split
        all_goals simp only
        all_goals omega
      · unfold hue; repeat' split
        all_goals simp only
        all_goals omega
    · rw [dec_f h2, cond_false]
      have hB : isB (c - 1) = true := by simp [isB]; omega
      have hS : colS (5 :: (c - 1) :: rest) = (2, 1 + (c - 1)) := by simp [colS, hB]
      show applyL p ((base + 8) :: 5 :: (c - 1) :: rest) = _
      rw [applyL, act_col p (by omega), hS]
      have e1 : base + 8 - 8 = base := by omega
      have e2 : 1 + (c - 1) = c := by omega
      rw [e1, e2]
      rfl

/-- What Turn tells makes the other pen. -/
theorem apply_turn (p q : T3) (hp : Fine p) (hq : Fine q) (hne : p ≠ q) (hsub : gone p q = false → ∀ k : Fin 8, B p.1 k.val = true → B q.1 k.val = true) : applyL p (turnS p q) = q := by
  have hpr := may_r.1 hp
  have hqr := may_r.1 hq
  have hc : ((p.1 == q.1) && (p.2.1 == q.2.1 && p.2.2 == q.2.2)) = false := by
    cases h : (p.1 == q.1) && (p.2.1 == q.2.1 && p.2.2 == q.2.2)
    · rfl
    · simp at h; exact absurd (Prod.ext h.1 (Prod.ext h.2.1 h.2.2)) hne
  unfold turnS
  rw [hc, cond_false]
  simp only
  have key : ∀ p' : T3, Fine p' → (∀ k : Fin 8, B p'.1 k.val = true → B q.1 k.val = true) → (p'.2.1 ≠ 0 → q.2.1 ≠ 0) → (p'.2.2 ≠ 0 → q.2.2 ≠ 0) →
      applyL p' (tbs q.1 p'.1 9 0 ++ (bif q.2.1 != p'.2.1 then showS 30 q.2.1 else []) ++ (bif q.2.2 != p'.2.2 then showS 40 q.2.2 else [])) = q := by
    intro p' hp' hs h1 h2
    have hpr' := may_r.1 hp'
    rw [List.append_assoc, tbs_obs hqr.1 hpr'.1]
    obtain ⟨x, g1, g2, g3⟩ := apply_obs q.1 p'.1 ((bif q.2.1 != p'.2.1 then showS 30 q.2.1 else []) ++ (bif q.2.2 != p'.2.2 then showS 40 q.2.2 else [])) 8 0 p' rfl hp'
    have hx : x = q.1 := g1.ext hqr.1 fun k => by
      rw [g3 k]
      have := hs k
      cases a : B p'.1 k.val <;> cases b : B q.1 k.val <;> simp_all
    rw [g2, hx]
    have s1 : ∀ (r : List Int), applyL (q.1, p'.2.1, p'.2.2) ((bif q.2.1 != p'.2.1 then showS 30 q.2.1 else []) ++ r) = applyL (q.1, q.2.1, p'.2.2) r := by
      intro r
      by_cases e : q.2.1 = p'.2.1
      · rw [← e]; simp
      · have : (q.2.1 != p'.2.1) = true := by simpa using e
        rw [this, cond_true, apply_show 30 _ (.inl rfl) ⟨pos_of hqr.2.1.1 e h1, hqr.2.1.2⟩]
        rfl
    rw [s1]
    by_cases e : q.2.2 = p'.2.2
    · rw [← e]; simp [applyL]
    · have : (q.2.2 != p'.2.2) = true := by simpa using e
      have := apply_show 40 q.2.2 (.inr rfl) ⟨pos_of hqr.2.2.1 e h2, hqr.2.2.2⟩ (q.1, q.2.1, p'.2.2) []
      rw [List.append_nil] at this
      rw [‹(q.2.2 != p'.2.2) = true›, cond_true, this, applyL]
      rfl
  cases hg : gone p q with
  | true =>
    simp only [cond_true]
    rw [List.append_assoc, List.append_assoc, List.singleton_append, applyL_cons p (by omega), ← List.append_assoc]
    exact key (0, 0, 0) rfl (fun k h => by simp [B] at h) (fun h => absurd rfl h) (fun h => absurd rfl h)
  | false =>
    simp only [cond_false, List.nil_append]
    simp only [gone, Bool.or_eq_false_iff] at hg
    exact key p hp (hsub (by simp only [gone, Bool.or_eq_false_iff]; exact hg)) (fun h h2 => by simp [lost, h, h2] at hg) (fun h h2 => by simp [lost, h, h2] at hg)
end Go.SH
