/- The plain laws of the pens. -/
import Derived.Test.YtlickgoakjldoaaDoorPenTw6
import Derived.KernelRfl
set_option linter.unusedVariables false
set_option linter.unusedSimpArgs false
namespace Go.SH

theorem w64 (x : Int) : IntKind.i64.wrap x = (x + 9223372036854775808) % 18446744073709551616 - 9223372036854775808 := by
  simp [IntKind.wrap, IntKind.signed, IntKind.bits]
  omega

def mayB (a b c : Int) : Bool := decide (0 ≤ a) && decide (a ≤ 255) && (decide (0 ≤ b) && decide (b ≤ 256)) && (decide (0 ≤ c) && decide (c ≤ 256))

theorem pen_May_1_eq (a m : Int) : pen_May_1 a m = some (decide (0 ≤ a) && decide (a ≤ m)) := by
  unfold pen_May_1; cases h : decide (a ≥ 0) <;> simp_all
theorem pen_May_eq (a b c : Int) : pen_May a b c = some (mayB a b c) := by
  unfold pen_May mayB
  simp only [pen_May_1_eq, Option.bind_some]
  cases h1 : (decide (0 ≤ a) && decide (a ≤ 255)) <;> cases h2 : (decide (0 ≤ b) && decide (b ≤ 256)) <;> simp
theorem pen_fine_eq (a b c : Int) : pen_fine a b c = some (bif mayB a b c then (a, b, c) else (0, 0, 0)) := by
  unfold pen_fine
  simp only [pen_May_eq, Option.bind_some]
  cases mayB a b c <;> simp

/-- The group of a number: is it one, is it the background's. -/
def grp (n : Int) : Bool × Int :=
  if 30 ≤ n ∧ n < 40 then (true, 30) else if 40 ≤ n ∧ n < 50 then (true, 40) else if 90 ≤ n ∧ n < 98 then (true, 30) else if 100 ≤ n ∧ n < 108 then (true, 40) else (false, 0)
theorem dec_t {p : Prop} [Decidable p] (h : p) : decide p = true := by simp [h]
theorem dec_f {p : Prop} [Decidable p] (h : ¬ p) : decide p = false := by simp [h]
theorem pen_plane_eq (n : Int) : pen_plane n = some (grp n) := by
  have key : pen_plane n = bif decide (30 ≤ n) && decide (n < 50) then some (true, IntKind.i64.wrap ((IntKind.i64.wrap (Int.tdiv n 10)) * 10)) else
      bif (decide (90 ≤ n) && decide (n < 98)) || (decide (100 ≤ n) && decide (n < 108)) then some (true, IntKind.i64.wrap ((IntKind.i64.wrap ((IntKind.i64.wrap (Int.tdiv n 10)) * 10)) - 60)) else some (false, 0) := by
    unfold pen_plane
    simp only [ge_iff_le]
    cases decide (30 ≤ n) <;> cases decide (n < 50) <;> cases decide (90 ≤ n) <;> cases decide (n < 98) <;> cases decide (100 ≤ n) <;> cases decide (n < 108) <;> rfl
  rw [key]
  unfold grp
  by_cases h1 : 30 ≤ n ∧ n < 50
  · rw [dec_t h1.1, dec_t h1.2, Int.tdiv_eq_ediv_of_nonneg (by omega)]
    simp only [Bool.and_self, cond_true, w64]
    by_cases h2 : n < 40
    · rw [if_pos ⟨h1.1, h2⟩]; congr 2; omega
    · rw [if_neg (by omega), if_pos (by omega)]; congr 2; omega
  · have e : (decide (30 ≤ n) && decide (n < 50)) = false := by simp; omega
    rw [e, if_neg (by omega), if_neg (by omega)]
    simp only [cond_false]
    by_cases h2 : 90 ≤ n ∧ n < 98
    · rw [dec_t h2.1, dec_t h2.2, if_pos h2, Int.tdiv_eq_ediv_of_nonneg (by omega)]
      simp only [Bool.and_self, Bool.true_or, cond_true, w64]
      congr 2; omega
    · rw [if_neg h2]
      have e : (decide (90 ≤ n) && decide (n < 98)) = false := by simp; omega
      rw [e]
      by_cases h3 : 100 ≤ n ∧ n < 108
      · rw [dec_t h3.1, dec_t h3.2, if_pos h3, Int.tdiv_eq_ediv_of_nonneg (by omega)]
        simp only [Bool.and_self, Bool.or_true, cond_true, w64]
        congr 2; omega
      · rw [if_neg h3]
        have e : (decide (100 ≤ n) && decide (n < 108)) = false := by simp; omega
        rw [e]; rfl

/-- The bit of a place. -/
def bitv : Nat → Int
  | 0 => 1 | 1 => 2 | 2 => 4 | 3 => 8 | 4 => 16 | 6 => 32 | 7 => 64 | 8 => 128 | _ => 0
theorem pen_bitOf_all : ∀ i : Fin 9, pen_bitOf (i.val : Int) = some (bitv i.val) := by decide +kernel
theorem pen_bitOf_eq (i : Nat) (h : i ≤ 8) : pen_bitOf (i : Int) = some (bitv i) := pen_bitOf_all ⟨i, by omega⟩

def isB (x : Int) : Bool := decide (0 ≤ x) && decide (x ≤ 255)

theorem getI_nat {α : Type} (l : List α) (i : Nat) : getI l (i : Int) = l[i]? := by simp [getI]

theorem colour1_step {l : List Int} {i : Nat} {x : Int} (h : l[i]? = some x) (hb : l.length < 9223372036854775807) : pen_colour_1_loop1 l (i : Int) = some (bif isB x then .inr ((i + 1 : Nat) : Int) else .inl (.inr ())) := by
  have hlt : i < l.length := (List.getElem?_eq_some_iff.1 h).1
  have e1 : decide ((i : Int) < (l.length : Int)) = true := by simp; omega
  have e2 : IntKind.i64.wrap ((i : Int) + 1) = ((i + 1 : Nat) : Int) := by rw [w64]; omega
  simp only [pen_colour_1_loop1, e1, cond_true, getI_nat, h, Option.bind_some, e2, isB]
  by_cases h1 : x < 0
  · have : ¬ 0 ≤ x := by omega
    simp [h1, this]
  · by_cases h2 : x > 255
    · have : ¬ x ≤ 255 := by omega
      simp [h1, h2, this]
    · have h3 : x ≤ 255 := by omega
      have h4 : 0 ≤ x := by omega
      simp [h1, h2, h3, h4]
theorem colour1_end (l : List Int) : pen_colour_1_loop1 l (l.length : Int) = some (.inl (.inl ())) := by simp [pen_colour_1_loop1]

theorem colour1_loop (l : List Int) : ∀ (m i : Nat), l.length - i = m → i ≤ l.length → l.length < 9223372036854775807 → loopO (fun x4 => pen_colour_1_loop1 l x4) (i : Int) = some (bif (l.drop i).all isB then .inl () else .inr ()) := by
  intro m
  induction m with
  | zero =>
    intro i hm hi hb
    have : i = l.length := by omega
    subst this
    rw [loopO_eq, colour1_end]
    simp
  | succ m ih =>
    intro i hm hi hb
    have hlt : i < l.length := by omega
    have ih' := ih (i + 1) (by omega) (by omega) hb
    rw [loopO_eq, colour1_step (List.getElem?_eq_getElem hlt) hb, List.drop_eq_getElem_cons hlt, List.all_cons]
    cases isB l[i] with
    | false => rfl
    | true => exact ih'
theorem pen_colour_1_eq (l : List Int) (hb : l.length < 9223372036854775807) : pen_colour_1 l = some (l.all isB) := by
  unfold pen_colour_1
  have := colour1_loop l _ 0 rfl (Nat.zero_le _) hb
  simp only [Int.natCast_zero] at this
  rw [this]
  simp only [Option.bind_some, List.drop_zero]
  cases l.all isB <;> rfl

/-- What follows a 38 or 48: how many numbers it takes, and one more than the colour. -/
def colS : List Int → Int × Int
  | x :: y :: r => bif decide (x = 5) && isB y then (2, 1 + y) else match r with
    | z :: w :: _ => bif decide (x = 2) && (isB y && isB z && isB w) then (4, 17 + 36 * (6 * y / 256) + 6 * (6 * z / 256) + 6 * w / 256) else (0, 0)
    | _ => (0, 0)
  | _ => (0, 0)

theorem isB_r {x : Int} (h : isB x = true) : 0 ≤ x ∧ x ≤ 255 := by simpa [isB] using h

theorem col_val {y z w : Int} (hy : isB y = true) (hz : isB z = true) (hw : isB w = true) :
    IntKind.i64.wrap ((IntKind.i64.wrap ((IntKind.i64.wrap (17 + (IntKind.i64.wrap (36 * (IntKind.i64.wrap (Int.tdiv (IntKind.i64.wrap (6 * y)) 256)))))) + (IntKind.i64.wrap (6 * (IntKind.i64.wrap (Int.tdiv (IntKind.i64.wrap (6 * z)) 256)))))) + (IntKind.i64.wrap (Int.tdiv (IntKind.i64.wrap (6 * w)) 256))) =
      17 + 36 * (6 * y / 256) + 6 * (6 * z / 256) + 6 * w / 256 := by
  have h1 := isB_r hy; have h2 := isB_r hz; have h3 := isB_r hw
  have e1 : ∀ x : Int, 0 ≤ x → x ≤ 255 → IntKind.i64.wrap (Int.tdiv (IntKind.i64.wrap (6 * x)) 256) = 6 * x / 256 := by
    intro x a b
    have : IntKind.i64.wrap (6 * x) = 6 * x := by rw [w64]; omega
    rw [this, Int.tdiv_eq_ediv_of_nonneg (by omega), w64]; omega
  rw [e1 y h1.1 h1.2, e1 z h2.1 h2.2, e1 w h3.1 h3.2]
  have a1 : 0 ≤ 6 * y / 256 ∧ 6 * y / 256 ≤ 5 := by omega
  have a2 : 0 ≤ 6 * z / 256 ∧ 6 * z / 256 ≤ 5 := by omega
  have a3 : 0 ≤ 6 * w / 256 ∧ 6 * w / 256 ≤ 5 := by omega
  simp only [w64]
  omega

theorem pen_colour_eq (l : List Int) (hb : l.length < 9223372036854775807) : pen_colour l = some (colS l) := by
  have g0 : ∀ (k : Int) (n : Nat), k = n → getI l k = l[n]? := fun k n h => by subst h; exact getI_nat l n
  unfold pen_colour
  rw [g0 0 0 rfl, g0 1 1 rfl, g0 2 2 rfl, g0 3 3 rfl]
  match l, hb with
  | [], _ => rfl
  | [x], _ => rfl
  | [x, y], hb => 
    have p1 : pen_colour_1 [y] = some (isB y) := by rw [pen_colour_1_eq [y] (by simp)]; simp
    simp only [colS, List.length_cons, List.length_nil]
    by_cases hx : x = 5
    · subst hx
      cases hy : isB y with
      | false => simp [hy, p1]
      | true =>
        have := isB_r hy
        have e : IntKind.i64.wrap (1 + y) = 1 + y := by rw [w64]; omega
        simp [hy, e, p1]
    · have hx' : (x == 5) = false := by simpa using hx
      simp [hx, hx']
  | [x, y, z], hb =>
    have p1 : pen_colour_1 [y] = some (isB y) := by rw [pen_colour_1_eq [y] (by simp)]; simp
    simp only [colS, List.length_cons, List.length_nil]
    by_cases hx : x = 5
    · subst hx
      cases hy : isB y with
      | false => simp [hy, p1]
      | true =>
        have := isB_r hy
        have e : IntKind.i64.wrap (1 + y) = 1 + y := by rw [w64]; omega
        simp [hy, e, p1]
    · have hx' : (x == 5) = false := by simpa using hx
      simp [hx, hx']
  | x :: y :: z :: w :: r, hb =>
    have hl : decide (((x :: y :: z :: w :: r).length : Int) ≥ 2) = true := by simp; omega
    have hl4 : decide (((x :: y :: z :: w :: r).length : Int) ≥ 4) = true := by simp; omega
    have hs : sub (x :: y :: z :: w :: r) 1 4 = [y, z, w] := rfl
    have hq : (1 ≤ 4 ∧ 4 ≤ (x :: y :: z :: w :: r).length) := by simp
    have p1 : pen_colour_1 [y] = some (isB y) := by rw [pen_colour_1_eq [y] (by simp)]; simp
    have p3 : pen_colour_1 [y, z, w] = some (isB y && isB z && isB w) := by rw [pen_colour_1_eq [y, z, w] (by simp)]; simp [Bool.and_assoc]
    rw [hl, hl4, req_pos hq, hs, p3]
    simp only [colS, cond_true, p1, List.getElem?_cons_zero, List.getElem?_cons_succ, Option.bind_some, List.all_cons, List.all_nil, Bool.and_true]
    by_cases hx : x = 5
    · subst hx
      cases hy : isB y with
      | false => simp
      | true =>
        have := isB_r hy
        have e : IntKind.i64.wrap (1 + y) = 1 + y := by rw [w64]; omega
        simp [e]
    · by_cases hx2 : x = 2
      · subst hx2
        cases hy : isB y <;> cases hz : isB z <;> cases hw : isB w <;> first | (simp; done) | skip
        simp [col_val hy hz hw]
      · have hx' : (x == 5) = false := by simpa using hx
        have hx2' : (x == 2) = false := by simpa using hx2
        simp [hx, hx2, hx', hx2']

abbrev T3 := Int × Int × Int
def paint (base c : Int) (p : T3) : T3 := bif base == 30 then (p.1, c, p.2.2) else (p.1, p.2.1, c)
/-- What one number asks, ahead of others: nothing more, or a pen and how many of the others it takes. -/
def act (p : T3) (n : Int) (rest : List Int) : Option (T3 × Int) :=
  bif n == 0 then some ((0, 0, 0), 0)
  else bif decide (1 ≤ n) && decide (n ≤ 9) then some ((ibits .or .i64 p.1 (bitv (n - 1).toNat), p.2.1, p.2.2), 0)
  else bif n == 22 then some ((ibits .andNot .i64 p.1 3, p.2.1, p.2.2), 0)
  else bif decide (23 ≤ n) && decide (n ≤ 29) then some ((ibits .andNot .i64 p.1 (bitv (n - 21).toNat), p.2.1, p.2.2), 0)
  else bif (grp n).1 && (n == (grp n).2 + 8) then (bif (colS rest).1 == 0 then none else some (paint (grp n).2 (colS rest).2 p, (colS rest).1))
  else bif (grp n).1 && (n == (grp n).2 + 9) then some (paint (grp n).2 0 p, 0)
  else bif (grp n).1 && decide (n < 90) then some (paint (grp n).2 (n - (grp n).2 + 1) p, 0)
  else bif (grp n).1 then some (paint (grp n).2 (n - (grp n).2 - 60 + 9) p, 0)
  else some (p, 0)

theorem paint_eq (base c b f k : Int) : (pen_Apply_1 base c b f k) = some ((paint base c (b, f, k)).2.1, (paint base c (b, f, k)).2.2) := by
  unfold pen_Apply_1 paint
  cases base == 30 <;> rfl
theorem paint_1 (base c b f k : Int) : (paint base c (b, f, k)).1 = b := by unfold paint; cases base == 30 <;> rfl
theorem paint_eta (base c b f k : Int) : (b, (paint base c (b, f, k)).2.1, (paint base c (b, f, k)).2.2) = paint base c (b, f, k) := by unfold paint; cases base == 30 <;> rfl
theorem grp_r (n : Int) : ((grp n).2 = 0 ∨ (grp n).2 = 30 ∨ (grp n).2 = 40) ∧ ((grp n).1 = true → 30 ≤ n ∧ n < 108) := by
  unfold grp; split
  · simp; omega
  · split
    · simp; omega
    · split
      · simp; omega
      · split
        · simp; omega
        · simp
theorem sub_end {α : Type} (l : List α) (a : Nat) : sub l a l.length = l.drop a := by
  unfold sub; rw [List.take_of_length_le (by simp)]

theorem apply_step {l : List Int} {i : Nat} {n : Int} (p : T3) (h : l[i]? = some n) (hb : l.length < 4611686018427387904) : pen_Apply_loop1 l (i : Int) p.1 p.2.1 p.2.2 =
    some (match act p n (l.drop (i + 1)) with | none => .inl (.inr p) | some (q, t) => .inr (IntKind.i64.wrap (IntKind.i64.wrap (i + t) + 1), q)) := by
  obtain ⟨b, f, k⟩ := p
  have hlt : i < l.length := (List.getElem?_eq_some_iff.1 h).1
  have e1 : decide ((i : Int) < (l.length : Int)) = true := by simp; omega
  have e2 : IntKind.i64.wrap ((i : Int) + 1) = ((i + 1 : Nat) : Int) := by rw [w64]; omega
  have e0 : IntKind.i64.wrap ((i : Int) + 0) = (i : Int) := by rw [w64]; omega
  obtain ⟨g1, g2⟩ := grp_r n
  have e8 : IntKind.i64.wrap ((grp n).2 + 8) = (grp n).2 + 8 := by rw [w64]; omega
  have e9 : IntKind.i64.wrap ((grp n).2 + 9) = (grp n).2 + 9 := by rw [w64]; omega
  have hc := pen_colour_eq (l.drop (i + 1)) (by simp; omega)
  have hq : 0 ≤ ((i + 1 : Nat) : Int) ∧ ((i + 1 : Nat) : Int).toNat ≤ l.length ∧ l.length ≤ l.length := by omega
  have ht : ((i + 1 : Nat) : Int).toNat = i + 1 := rfl
  simp only [pen_Apply_loop1, e1, cond_true, getI_nat, h, Option.bind_some, pen_plane_eq, e2, e8, e9, req_pos hq, ht, sub_end, hc, paint_eq, ge_iff_le]
  have e2' : IntKind.i64.wrap ((i : Int) + 1) = (i : Int) + 1 := by rw [w64]; omega
  have e0' : IntKind.i64.wrap (i : Int) = (i : Int) := by rw [w64]; omega
  clear e2 e0 e1 hq ht hc
  unfold act
  by_cases h0 : n = 0
  · subst h0; simp [e0', e2']
  have h0' : (n == 0) = false := by simpa using h0
  simp only [h0', cond_false]
  by_cases h1 : 1 ≤ n ∧ n ≤ 9
  · have eb : pen_bitOf (IntKind.i64.wrap (n - 1)) = some (bitv (n - 1).toNat) := by
      have : IntKind.i64.wrap (n - 1) = ((n - 1).toNat : Int) := by rw [w64]; omega
      rw [this, pen_bitOf_eq _ (by omega)]
    simp [h1.1, h1.2, eb, e0', e2']
  have h1' : (decide (1 ≤ n) && decide (n ≤ 9)) = false := by simp; omega
  have k1 : ∀ {α : Type} (f : Bool → Option α), ((bif decide (1 ≤ n) then some (decide (n ≤ 9)) else some false).bind f) = f false := by
    intro α f
    cases a : decide (1 ≤ n) <;> cases c : decide (n ≤ 9) <;> simp_all
  rw [k1, h1']
  simp only [cond_false]
  by_cases h2 : n = 22
  · subst h2; simp [e0', e2']
  have h2' : (n == 22) = false := by simpa using h2
  simp only [h2', cond_false]
  by_cases h3 : 23 ≤ n ∧ n ≤ 29
  · have eb : pen_bitOf (IntKind.i64.wrap (n - 21)) = some (bitv (n - 21).toNat) := by
      have : IntKind.i64.wrap (n - 21) = ((n - 21).toNat : Int) := by rw [w64]; omega
      rw [this, pen_bitOf_eq _ (by omega)]
    simp [h3.1, h3.2, eb, e0', e2']
  have h3' : (decide (23 ≤ n) && decide (n ≤ 29)) = false := by simp; omega
  have k3 : ∀ {α : Type} (f : Bool → Option α), ((bif decide (23 ≤ n) then some (decide (n ≤ 29)) else some false).bind f) = f false := by
    intro α f
    cases a : decide (23 ≤ n) <;> cases c : decide (n ≤ 29) <;> simp_all
  rw [k3, h3']
  simp only [cond_false]
  cases hg : (grp n).1 with
  | false => simp [e0', e2']
  | true =>
    obtain ⟨g3, g4⟩ := g2 hg
    have ea : IntKind.i64.wrap ((IntKind.i64.wrap (n - (grp n).2)) + 1) = n - (grp n).2 + 1 := by simp only [w64]; omega
    have ec : IntKind.i64.wrap ((IntKind.i64.wrap ((IntKind.i64.wrap (n - (grp n).2)) - 60)) + 9) = n - (grp n).2 - 60 + 9 := by simp only [w64]; omega
    simp only [cond_true, Option.bind_some, Bool.true_and, ea, ec]
    cases h8 : n == (grp n).2 + 8 with
    | true =>
      simp only [cond_true]
      have q1 : 0 ≤ (i : Int) + 1 := by omega
      have q2 : i + 1 ≤ l.length := by omega
      cases h9 : (colS (l.drop (i + 1))).1 == 0 <;> simp [h9, paint_eta, req, q1, q2]
    | false =>
      simp only [cond_false]
      cases h9 : n == (grp n).2 + 9 with
      | true => simp [e0', e2', paint_eta]
      | false =>
        simp only [cond_false]
        cases h10 : decide (n < 90) <;> simp [e0', e2', paint_eta]

theorem colS_t (l : List Int) : (colS l).1 = 0 ∨ (colS l).1 = 2 ∨ (colS l).1 = 4 := by
  match l with
  | [] => simp [colS]
  | [x] => simp [colS]
  | [x, y] => simp only [colS]; cases decide (x = 5) && isB y <;> simp
  | [x, y, z] => simp only [colS]; cases decide (x = 5) && isB y <;> simp
  | x :: y :: z :: w :: r => simp only [colS]; cases decide (x = 5) && isB y <;> cases decide (x = 2) && (isB y && isB z && isB w) <;> simp
theorem act_t {p : T3} {n : Int} {rest : List Int} {q : T3} {t : Int} (h : act p n rest = some (q, t)) : t = 0 ∨ t = 2 ∨ t = 4 := by
  have hc := colS_t rest
  unfold act at h
  simp only [Bool.cond_eq_ite] at h
  repeat' split at h
  all_goals first | (simp at h; done) | (simp only [Option.some.injEq, Prod.mk.injEq] at h; obtain ⟨_, rfl⟩ := h; first | exact .inl rfl | exact hc)

def applyL (p : T3) : List Int → T3
  | [] => p
  | n :: rest => match act p n rest with
    | none => p
    | some (q, t) => applyL q (rest.drop t.toNat)
  termination_by l => l.length
  decreasing_by simp; omega

def mrg {α : Type} : α ⊕ α → α
  | .inl a => a
  | .inr a => a

theorem apply_end (l : List Int) (i : Nat) (hi : l.length ≤ i) (p : T3) : pen_Apply_loop1 l (i : Int) p.1 p.2.1 p.2.2 = some (.inl (.inl p)) := by
  have e : decide ((i : Int) < (l.length : Int)) = false := by simp; omega
  unfold pen_Apply_loop1
  rw [e]; rfl

theorem apply_loop (l : List Int) (hb : l.length < 4611686018427387904) : ∀ (m i : Nat) (p : T3), l.length - i ≤ m → i ≤ l.length + 4 →
    ∃ z, loopO (fun z => match z with | (x37, x38, x39, x40) => pen_Apply_loop1 l x37 x38 x39 x40) ((i : Int), p) = some z ∧ mrg z = applyL p (l.drop i) := by
  intro m
  induction m with
  | zero =>
    intro i p hm hi
    refine ⟨.inl p, ?_, ?_⟩
    · rw [loopO_eq]
      have := apply_end l i (by omega) p
      obtain ⟨b, f, k⟩ := p
      simp only at this ⊢
      rw [this]
    · rw [List.drop_eq_nil_of_le (by omega)]; simp [mrg, applyL]
  | succ m ih =>
    intro i p hm hi
    by_cases hlt : i < l.length
    · have hs := apply_step p (List.getElem?_eq_getElem hlt) hb
      have hd := List.drop_eq_getElem_cons hlt
      rw [loopO_eq]
      obtain ⟨b, f, k⟩ := p
      simp only at hs ⊢
      rw [hs, hd, applyL]
      cases ha : act (b, f, k) l[i] (l.drop (i + 1)) with
      | none => exact ⟨.inr (b, f, k), rfl, rfl⟩
      | some qt =>
        obtain ⟨q, t⟩ := qt
        have ht := act_t ha
        have e : IntKind.i64.wrap (IntKind.i64.wrap ((i : Int) + t) + 1) = ((i + 1 + t.toNat : Nat) : Int) := by simp only [w64]; omega
        obtain ⟨z, h1, h2⟩ := ih (i + 1 + t.toNat) q (by omega) (by omega)
        refine ⟨z, ?_, ?_⟩
        · simp only [e]; exact h1
        · rw [h2]; simp only [List.drop_drop]
    · refine ⟨.inl p, ?_, ?_⟩
      · rw [loopO_eq]
        have := apply_end l i (by omega) p
        obtain ⟨b, f, k⟩ := p
        simp only at this ⊢
        rw [this]
      · rw [List.drop_eq_nil_of_le (by omega)]; simp [mrg, applyL]

theorem pen_Apply_eq (a b c : Int) (l : List Int) (hb : l.length < 4611686018427387904) : pen_Apply a b c l = some (bif l.isEmpty then (0, 0, 0) else applyL (bif mayB a b c then (a, b, c) else (0, 0, 0)) l) := by
  unfold pen_Apply
  obtain ⟨z, h1, h2⟩ := apply_loop l hb l.length 0 (bif mayB a b c then (a, b, c) else (0, 0, 0)) (by omega) (by omega)
  rw [pen_fine_eq, Option.bind_some]
  generalize (bif mayB a b c then (a, b, c) else (0, 0, 0)) = p at *
  obtain ⟨x, y, w⟩ := p
  cases l with
  | nil => rfl
  | cons n r =>
    have e : (((n :: r).length : Int) == 0) = false := by simp; omega
    simp only [e, cond_false, List.isEmpty_cons]
    simp only [Int.natCast_zero, List.drop_zero] at h1 h2
    rw [h1, ← h2]
    cases z <;> rfl
end Go.SH
