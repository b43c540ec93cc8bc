/- The run of the code, as the kernel runs it fast: Y. -/
import Derived.Test.YtfadcigdmddndaaDoorShY
set_option linter.unusedVariables false
set_option linter.unusedSimpArgs false
namespace Go.SH

/-- A function that is made once, out of the code's text. -/
structure W (α : Type) where
  run : α
inductive OR where
  | no
  | v (x : PV)
  | w (x : PV) (wl : Lb)
def OR.of : Option (PV × Lb) → OR
  | none => .no
  | some (x, []) => .v x
  | some (x, wl) => .w x wl

theorem brec_cond {α : Sort _} (c : Bool) (t f : α) : (Bool.rec (motive := fun _ => α) f t c) = cond c t f := by cases c <;> rfl

/-! lists and trees by their recursors -/
noncomputable def lgF {α : Type} (L : List (Nat × α)) : Nat → Option α := fun l => List.rec none (fun p _ ih => (Bool.rec (motive := fun _ => Option α) ih (some p.2) (Nat.beq p.1 l))) L
theorem lgF_eq {α : Type} (L : List (Nat × α)) (l : Nat) : lgF L l = lget L l := by
  induction L with
  | nil => rfl
  | cons p r ih =>
    obtain ⟨k, x⟩ := p
    show (Bool.rec (motive := fun _ => Option α) (lgF r l) (some x) (Nat.beq k l)) = _
    simp only [brec_cond]
    rw [ih, beq_dec, lget]
    by_cases h : k = l <;> simp [h]
noncomputable def tgF (t : Tr) : Nat → Option (List PV) :=
  Tr.rec (fun _ => none) (fun v _ _ ihl ihr k => (Bool.rec (motive := fun _ => Option (List PV)) ((Bool.rec (motive := fun _ => Option (List PV)) (ihr (Nat.sub (Nat.div k 2) 1)) (ihl (Nat.div k 2)) (Nat.beq (Nat.mod k 2) 1))) v (Nat.beq k 0))) t
theorem tgF_eq : ∀ (t : Tr) (k : Nat), tgF t k = tget t k
  | .nil, k => rfl
  | .node v l r, k => by
    show (Bool.rec (motive := fun _ => Option (List PV)) ((Bool.rec (motive := fun _ => Option (List PV)) (tgF r (Nat.sub (Nat.div k 2) 1)) (tgF l (Nat.div k 2)) (Nat.beq (Nat.mod k 2) 1))) v (Nat.beq k 0)) = _
    simp only [brec_cond]
    rw [tgF_eq l, tgF_eq r]; rfl
noncomputable def tsF (f : Nat) : Tr → Nat → Option (List PV) → Tr :=
  Nat.rec (fun t _ _ => t) (fun _ ih t k y => Tr.rec
    ((Bool.rec (motive := fun _ => Tr) ((Bool.rec (motive := fun _ => Tr) (.node none .nil (ih .nil (Nat.sub (Nat.div k 2) 1) y)) (.node none (ih .nil (Nat.div k 2) y) .nil) (Nat.beq (Nat.mod k 2) 1))) (.node y .nil .nil) (Nat.beq k 0)))
    (fun v l r _ _ => (Bool.rec (motive := fun _ => Tr) ((Bool.rec (motive := fun _ => Tr) (.node v l (ih r (Nat.sub (Nat.div k 2) 1) y)) (.node v (ih l (Nat.div k 2) y) r) (Nat.beq (Nat.mod k 2) 1))) (.node y l r) (Nat.beq k 0))) t) f
theorem tsF_eq : ∀ (f : Nat) (t : Tr) (k : Nat) (y : Option (List PV)), tsF f t k y = tset f t k y
  | 0, t, k, y => by cases t <;> rfl
  | f + 1, .nil, k, y => by
    show (Bool.rec (motive := fun _ => Tr) ((Bool.rec (motive := fun _ => Tr) (Tr.node none .nil (tsF f .nil (Nat.sub (Nat.div k 2) 1) y)) (Tr.node none (tsF f .nil (Nat.div k 2) y) .nil) (Nat.beq (Nat.mod k 2) 1))) (Tr.node y .nil .nil) (Nat.beq k 0)) = _
    simp only [brec_cond]
    rw [tsF_eq f, tsF_eq f]; rfl
  | f + 1, .node v l r, k, y => by
    show (Bool.rec (motive := fun _ => Tr) ((Bool.rec (motive := fun _ => Tr) (Tr.node v l (tsF f r (Nat.sub (Nat.div k 2) 1) y)) (Tr.node v (tsF f l (Nat.div k 2) y) r) (Nat.beq (Nat.mod k 2) 1))) (Tr.node y l r) (Nat.beq k 0)) = _
    simp only [brec_cond]
    rw [tsF_eq f, tsF_eq f]; rfl
noncomputable def tuF (wl : Lb) : Tr → Tr := List.rec (fun m => m) (fun p _ ih m => ih (tsF 20 m p.1 p.2)) wl
theorem tuF_eq : ∀ (wl : Lb) (m : Tr), tuF wl m = tupd m wl
  | [], m => rfl
  | (l, y) :: r, m => by
    show tuF r (tsF 20 m l y) = _
    rw [tuF_eq r, tsF_eq]; rfl
noncomputable def nthF (cells : List PV) : Nat → Option PV := List.rec (fun _ => none) (fun x _ ih k => (Bool.rec (motive := fun _ => Option PV) (ih (Nat.sub k 1)) (some x) (Nat.beq k 0))) cells
theorem nthF_eq : ∀ (cells : List PV) (k : Nat), nthF cells k = cells[k]?
  | [], k => by simp [nthF]
  | x :: r, k => by
    show (Bool.rec (motive := fun _ => Option PV) (nthF r (Nat.sub k 1)) (some x) (Nat.beq k 0)) = _
    simp only [brec_cond]
    rw [nthF_eq r, beq_dec]
    cases k with
    | zero => simp
    | succ k => simp [Nat.sub]
/-- The cells from a place on. -/
noncomputable def dropF (cells : List PV) : Nat → List PV := List.rec (fun _ => []) (fun x r ih k => (Bool.rec (motive := fun _ => List PV) (ih (Nat.sub k 1)) (x :: r) (Nat.beq k 0))) cells
theorem dropF_eq : ∀ (cells : List PV) (k : Nat), dropF cells k = cells.drop k
  | [], k => by simp [dropF]
  | x :: r, k => by
    show (Bool.rec (motive := fun _ => List PV) (dropF r (Nat.sub k 1)) (x :: r) (Nat.beq k 0)) = _
    simp only [brec_cond]
    rw [dropF_eq r, beq_dec]
    cases k with
    | zero => simp
    | succ k => simp [Nat.sub]
noncomputable def takeF (cells : List PV) : Nat → List PV := List.rec (fun _ => []) (fun x _ ih k => (Bool.rec (motive := fun _ => List PV) (x :: ih (Nat.sub k 1)) [] (Nat.beq k 0))) cells
theorem takeF_eq : ∀ (cells : List PV) (k : Nat), takeF cells k = cells.take k
  | [], k => by simp [takeF]
  | x :: r, k => by
    show (Bool.rec (motive := fun _ => List PV) (x :: takeF r (Nat.sub k 1)) [] (Nat.beq k 0)) = _
    simp only [brec_cond]
    rw [takeF_eq r, beq_dec]
    cases k with
    | zero => simp
    | succ k => simp [Nat.sub]
noncomputable def appF (xs ys : List PV) : List PV := List.rec ys (fun x _ ih => x :: ih) xs
theorem appF_eq : ∀ (xs ys : List PV), appF xs ys = xs ++ ys
  | [], ys => rfl
  | x :: r, ys => by show x :: appF r ys = _; rw [appF_eq r]; rfl
noncomputable def lenF (xs : List PV) : Nat := List.rec 0 (fun _ _ ih => Nat.succ ih) xs
theorem lenF_eq : ∀ (xs : List PV), lenF xs = xs.length
  | [] => rfl
  | x :: r => by show Nat.succ (lenF r) = _; rw [lenF_eq r]; rfl
noncomputable def spF (cells : List PV) (off : Nat) (xs : List PV) : List PV := appF (takeF cells off) (appF xs (dropF cells (Nat.add off (lenF xs))))
theorem spF_eq (cells : List PV) (off : Nat) (xs : List PV) : spF cells off xs = splice cells off xs := by
  unfold spF splice; rw [appF_eq, appF_eq, takeF_eq, dropF_eq, lenF_eq, List.append_assoc]; rfl
/-- Are there so many cells? -/
noncomputable def geF (cells : List PV) (k : Nat) : Bool := (Bool.rec (motive := fun _ => Bool) (nthF cells (Nat.sub k 1)).isSome true (Nat.beq k 0))
theorem geF_eq (cells : List PV) (k : Nat) : geF cells k = decide (k ≤ cells.length) := by
  unfold geF
  rw [nthF_eq, beq_dec]
  cases k with
  | zero => simp
  | succ k => rw [Bool.eq_iff_iff]; simp [Nat.sub]; omega

/-! numbers -/
noncomputable def ltF (a b : Int) : Bool := Int.rec (fun m => Int.rec (fun n => Nat.blt m n) (fun _ => false) b) (fun m => Int.rec (fun _ => true) (fun n => Nat.blt n m) b) a
theorem ltF_eq (a b : Int) : ltF a b = decide (a < b) := by
  cases a with
  | ofNat m => cases b with
    | ofNat n => show Nat.blt m n = _; rw [Bool.eq_iff_iff]; simp [Nat.blt]; omega
    | negSucc n => show false = _; symm; simp; omega
  | negSucc m => cases b with
    | ofNat n => show true = _; symm; simp; omega
    | negSucc n => show Nat.blt n m = _; rw [Bool.eq_iff_iff]; simp [Nat.blt]; omega
noncomputable def eqF (a b : Int) : Bool := Int.rec (fun m => Int.rec (fun n => Nat.beq m n) (fun _ => false) b) (fun m => Int.rec (fun _ => false) (fun n => Nat.beq m n) b) a
theorem eqF_eq (a b : Int) : eqF a b = (a == b) := by
  cases a with
  | ofNat m => cases b with
    | ofNat n => show Nat.beq m n = _; rw [beq_dec, Bool.eq_iff_iff]; simp; omega
    | negSucc n => show false = _; symm; simp
  | negSucc m => cases b with
    | ofNat n => show false = _; symm; simp
    | negSucc n => show Nat.beq m n = _; rw [beq_dec, Bool.eq_iff_iff]; simp
noncomputable def kix (k : IntKind) : Nat := IntKind.rec 0 1 2 3 4 5 6 7 k
theorem kix_inj {k k' : IntKind} (h : kix k = kix k') : k = k' := by cases k <;> cases k' <;> first | rfl | (exact absurd h (by decide))
end Go.SH
