/- The plain laws of the pens: PenApplies. -/
import Derived.Test.YtlickgoakjldoaaDoorPenLaw9
set_option linter.unusedVariables false
set_option linter.unusedSimpArgs false
namespace Go.SH

theorem ref3_all : ∀ n : Fin 30, ∀ b : Fin 256, (n.val == 0 || loopF (fun z => match z with | (x86, x87) => orielref12_Apply_loop3 (n.val : Int) x86 x87) 9 ((0 : Int), (b.val : Int)) == some (one (b.val, 0, 0) n.val).1) = true := by decide +kernel
theorem one_bits (p : T3) {n : Int} (h : 1 ≤ n ∧ n < 30) : one p n = ((one (p.1, 0, 0) n).1, p.2.1, p.2.2) := by
  unfold one
  rcases ways n with g | g | g | g | g | g | g
  · omega
  · rw [act_set p g, act_set _ g]
  · subst g; rfl
  · rw [act_clr p g, act_clr _ g]
  · omega
  · omega
  · rw [act_no p g, act_no _ g]
theorem clr_k : ∀ k : Fin 8, 22 ≤ ([22, 22, 23, 24, 25, 27, 28, 29] : List Int)[k.val]! ∧ ([22, 22, 23, 24, 25, 27, 28, 29] : List Int)[k.val]! ≤ 29 := by decide +kernel
theorem num_k : ∀ k : Fin 8, 1 ≤ num k.val ∧ num k.val ≤ 9 := by decide +kernel
theorem ref3_not (n b : Int) (h : n < 0 ∨ 30 ≤ n) : ∀ (m k : Nat), k + m = 8 → loopO (fun z => match z with | (x86, x87) => orielref12_Apply_loop3 n x86 x87) ((k : Int), b) = some b
  | 0, k, hk => by
    obtain rfl : k = 8 := by omega
    exact loopO_done rfl
  | m + 1, k, hk => by
    have e2 : IntKind.i64.wrap ((k : Int) + 1) = ((k + 1 : Nat) : Int) := by rw [w64]; omega
    have hr := rbits ⟨k, by omega⟩
    have h1 := clr_k ⟨k, by omega⟩
    have h2 := num_k ⟨k, by omega⟩
    simp only at hr h1 h2
    have c1 : (n == ([22, 22, 23, 24, 25, 27, 28, 29] : List Int)[k]!) = false := by simp only [beq_eq_false_iff_ne]; omega
    have c2 : (n == num k) = false := by simp only [beq_eq_false_iff_ne]; omega
    have hs : orielref12_Apply_loop3 n (k : Int) b = some (.inr (((k + 1 : Nat) : Int), b)) := by
      unfold orielref12_Apply_loop3
      rw [dec_t (show (k : Int) < 8 by omega), cond_true, e2, hr, Option.bind_some]
      simp only
      rw [req_pos (rd_ok ⟨k, by omega⟩), c1, c2]
      rfl
    rw [loopO_eq]
    simp only
    rw [hs]
    exact ref3_not n b h m (k + 1) (by omega)
/-- The bits behind a number that is not 0. -/
theorem ref3_eq (p : T3) (n : Int) (hp : Fine p) (h0 : n ≠ 0) : loopO (fun z => match z with | (x86, x87) => orielref12_Apply_loop3 n x86 x87) ((0 : Int), p.1) = some (if 1 ≤ n ∧ n < 30 then (one p n).1 else p.1) := by
  by_cases h : 1 ≤ n ∧ n < 30
  · rw [if_pos h, one_bits p h]
    obtain ⟨b, hb⟩ := By.fin (may_r.1 hp).1
    rw [hb]
    obtain ⟨m, rfl⟩ : ∃ m : Nat, n = (m : Int) := ⟨n.toNat, by omega⟩
    have := ref3_all ⟨m, by omega⟩ b
    have hm : (m == 0) = false := by simp; omega
    simp only [hm, Bool.false_or] at this
    exact loopF_ok (eq_of_beq this)
  · rw [if_neg h]
    have := ref3_not n p.1 (by omega) 8 0 rfl
    simpa using this

theorem byteLike_eq (x : Int) : orielref12_byteLike x = some (isB x) := by
  unfold orielref12_byteLike isB; simp only [ge_iff_le]; cases decide (0 ≤ x) <;> rfl

theorem col_val' {y z w : Int} (hy : isB y = true) (hz : isB z = true) (hw : isB w = true) :
    IntKind.i64.wrap ((IntKind.i64.wrap ((IntKind.i64.wrap ((IntKind.i64.wrap (16 + (IntKind.i64.wrap (36 * (IntKind.i64.wrap (Int.tdiv (IntKind.i64.wrap (6 * y)) 256)))))) + (IntKind.i64.wrap (6 * (IntKind.i64.wrap (Int.tdiv (IntKind.i64.wrap (6 * z)) 256)))))) + (IntKind.i64.wrap (Int.tdiv (IntKind.i64.wrap (6 * w)) 256)))) + 1) =
      17 + 36 * (6 * y / 256) + 6 * (6 * z / 256) + 6 * w / 256 := by
  have h1 := isB_r hy; have h2 := isB_r hz; have h3 := isB_r hw
  have e1 : ∀ x : Int, 0 ≤ x → x ≤ 255 → IntKind.i64.wrap (Int.tdiv (IntKind.i64.wrap (6 * x)) 256) = 6 * x / 256 := by
    intro x a b
    have : IntKind.i64.wrap (6 * x) = 6 * x := by rw [w64]; omega
    rw [this, Int.tdiv_eq_ediv_of_nonneg (by omega), w64]; omega
  rw [e1 y h1.1 h1.2, e1 z h2.1 h2.2, e1 w h3.1 h3.2]
  have a1 : 0 ≤ 6 * y / 256 ∧ 6 * y / 256 ≤ 5 := by omega
  have a2 : 0 ≤ 6 * z / 256 ∧ 6 * z / 256 ≤ 5 := by omega
  have a3 : 0 ≤ 6 * w / 256 ∧ 6 * w / 256 ≤ 5 := by omega
  simp only [w64]
  omega

/-- The document's reading of what follows a 38 or 48. -/
noncomputable def refCol {α : Type} (r : List Int) (k1 : Int → Option α) (k2 : Int → Option α) (k3 : Option α) : Option α :=
  (bif (decide ((r.length : Int) > 1)) then
      ((getI r 0).bind fun x106 => bif ((x106 : Int) == 5) then ((getI r 1).bind fun x107 => (orielref12_byteLike x107).bind fun x108 => some x108) else (some false))
    else (some false) : Option (Bool)).bind fun x109 =>
  bif x109 then ((getI r 1).bind fun x122 => k1 (IntKind.i64.wrap (x122 + 1)))
  else
    ((bif (decide ((r.length : Int) > 3)) then
        ((getI r 0).bind fun x110 =>
        bif ((x110 : Int) == 2) then
          ((getI r 1).bind fun x111 =>
          (orielref12_byteLike x111).bind fun x112 =>
          bif x112 then
            ((getI r 2).bind fun x113 =>
            (orielref12_byteLike x113).bind fun x114 =>
            bif x114 then
              ((getI r 3).bind fun x115 =>
              (orielref12_byteLike x115).bind fun x116 =>
              some x116)
            else
              (some false))
          else
            (some false))
        else
          (some false))
      else
        (some false) : Option (Bool)).bind fun x117 =>
    bif x117 then
      ((getI r 1).bind fun x118 =>
      (getI r 2).bind fun x119 =>
      (getI r 3).bind fun x120 =>
      k2 (IntKind.i64.wrap ((IntKind.i64.wrap ((IntKind.i64.wrap ((IntKind.i64.wrap (16 + (IntKind.i64.wrap (36 * (IntKind.i64.wrap (Int.tdiv (IntKind.i64.wrap (6 * x118)) 256)))))) + (IntKind.i64.wrap (6 * (IntKind.i64.wrap (Int.tdiv (IntKind.i64.wrap (6 * x119)) 256)))))) + (IntKind.i64.wrap (Int.tdiv (IntKind.i64.wrap (6 * x120)) 256)))) + 1)))
    else k3)

theorem refCol_eq {α : Type} (r : List Int) (k1 k2 : Int → Option α) (k3 : Option α) : refCol r k1 k2 k3 = if (colS r).1 = 0 then k3 else if (colS r).1 = 2 then k1 (colS r).2 else k2 (colS r).2 := by
  have g0 : ∀ (k : Int) (n : Nat), k = n → getI r k = r[n]? := fun k n h => by subst h; exact getI_nat r n
  unfold refCol
  simp only [byteLike_eq]
  rw [g0 0 0 rfl, g0 1 1 rfl, g0 2 2 rfl, g0 3 3 rfl]
  match r with
  | [] => rfl
  | [x] => rfl
  | [x, y] =>
    simp only [colS, List.length_cons, List.length_nil]
    by_cases hx : x = 5
    · subst hx
      by_cases hy : isB y = true
      · have := isB_r hy
        have e : IntKind.i64.wrap (y + 1) = 1 + y := by rw [w64]; omega
        simp [hy, e]
      · simp [hy]
    · have hx' : (x == 5) = false := by simpa using hx
      simp [hx, hx']
  | [x, y, z] =>
    simp only [colS, List.length_cons, List.length_nil]
    by_cases hx : x = 5
    · subst hx
      by_cases hy : isB y = true
      · have := isB_r hy
        have e : IntKind.i64.wrap (y + 1) = 1 + y := by rw [w64]; omega
        simp [hy, e]
      · simp [hy]
    · have hx' : (x == 5) = false := by simpa using hx
      simp [hx, hx']
  | x :: y :: z :: w :: r =>
    have hl : decide (((x :: y :: z :: w :: r).length : Int) > 1) = true := dec_t (by simp only [List.length_cons]; omega)
    have hl4 : decide (((x :: y :: z :: w :: r).length : Int) > 3) = true := dec_t (by simp only [List.length_cons]; omega)
    rw [hl, hl4]
    simp only [colS, cond_true, List.getElem?_cons_zero, List.getElem?_cons_succ, Option.bind_some]
    by_cases hx : x = 5
    · subst hx
      by_cases hy : isB y = true
      · have := isB_r hy
        have e : IntKind.i64.wrap (y + 1) = 1 + y := by rw [w64]; omega
        simp [hy, e]
      · simp [hy]
    · by_cases hx2 : x = 2
      · subst hx2
        by_cases hy : isB y = true <;> by_cases hz : isB z = true <;> by_cases hw : isB w = true <;> first | (simp [hy, hz, hw]; done) | skip
        simp [hy, hz, hw, col_val' hy hz hw]
      · have hx' : (x == 5) = false := by simpa using hx
        have hx2' : (x == 2) = false := by simpa using hx2
        simp [hx, hx2, hx', hx2']
end Go.SH
