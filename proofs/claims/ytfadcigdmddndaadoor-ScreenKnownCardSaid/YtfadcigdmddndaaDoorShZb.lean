/- The fast run is the run: operations. -/
import Derived.Test.YtfadcigdmddndaaDoorShZa
set_option linter.unusedVariables false
set_option linter.unusedSimpArgs false
namespace Go.SH

section
variable {P : Program} {G : List (Nat × List PV)}

theorem evC_eq (x : Operand) : ∃ e, evC G x = ⟨e⟩ ∧ ∀ al, e al = xev G al x := by
  cases x with
  | tmp t => exact ⟨_, rfl, fun al => lgF_eq al t⟩
  | const v => exact ⟨_, rfl, fun al => rfl⟩
  | global g => exact ⟨_, rfl, fun al => rfl⟩
  | func f => exact ⟨_, rfl, fun al => rfl⟩

theorem orV_of (r : Option PV) : orV r = OR.of (r.map fun v => (v, [])) := by cases r <;> rfl

theorem i64W_pos (n : Nat) (hn : n ≤ 9223372036854775807) : IntKind.i64.wrap (Int.ofNat n) = Int.ofNat n := IntWalk.i64_in _ ⟨by simp only [Int.ofNat_eq_natCast]; omega, by simp only [Int.ofNat_eq_natCast]; omega⟩
theorem i64W_neg (n : Nat) (hn : n ≤ 9223372036854775807) : IntKind.i64.wrap (Int.negSucc n) = Int.negSucc n := IntWalk.i64_in _ ⟨by rw [Int.negSucc_eq]; omega, by rw [Int.negSucc_eq]; omega⟩
theorem blt_le {n k : Nat} (h : Nat.blt n (k + 1) = true) : n ≤ k := by simp [Nat.blt] at h; exact h
theorem blt63 {n : Nat} (h : Nat.blt n 9223372036854775808 = true) : n ≤ 9223372036854775807 := blt_le h
theorem i64W_eq (x : Int) : i64W.run x = IntKind.i64.wrap x := by
  cases x with
  | ofNat n =>
    refine (brec_cond (Nat.blt n 9223372036854775808) (Int.ofNat n) (IntKind.i64.wrap (Int.ofNat n))).trans ?_
    cases hb : Nat.blt n 9223372036854775808 with
    | false => rw [cond_false]
    | true => rw [cond_true, i64W_pos n (blt63 hb)]
  | negSucc n =>
    refine (brec_cond (Nat.blt n 9223372036854775808) (Int.negSucc n) (IntKind.i64.wrap (Int.negSucc n))).trans ?_
    cases hb : Nat.blt n 9223372036854775808 with
    | false => rw [cond_false]
    | true => rw [cond_true, i64W_neg n (blt63 hb)]
theorem wrapF_eq (k : IntKind) (x : Int) : wrapF k x = k.wrap x := by
  unfold wrapF
  rw [brec_cond, beq_dec]
  by_cases h : kix k = kix .i64
  · have := kix_inj h
    subst this
    simp only [decide_true, cond_true]
    exact i64W_eq x
  · simp only [h, decide_false, cond_false]

theorem cellsF_eq (x : PV) : cellsF x = pcells x := by cases x <;> rfl

variable {d : Option Tmp} {ty : TypeId} {pos : String} {after : Array Edge} {g : Option (Nat × Bool)} {al : Al} {m : Tr} {nx : Nat}

theorem moveC_eq (x : Operand) : (match evC G x with | ⟨e⟩ => (⟨fun al m nx => orV (e al)⟩ : W (Al → Tr → Nat → OR))).run al m nx = OR.of (xop2 P G ⟨d, .move x, ty, pos, after, g⟩ al (rlOf G al m (.move x)) nx) := by
  obtain ⟨e, h, he⟩ := evC_eq (G := G) x
  rw [h]
  show orV (e al) = _
  rw [he, orV_of]; rfl
theorem assignC_eq (x : Operand) : (match evC G x with | ⟨e⟩ => (⟨fun al m nx => orV (e al)⟩ : W (Al → Tr → Nat → OR))).run al m nx = OR.of (xop2 P G ⟨d, .assign x, ty, pos, after, g⟩ al (rlOf G al m (.assign x)) nx) := by
  obtain ⟨e, h, he⟩ := evC_eq (G := G) x
  rw [h]
  show orV (e al) = _
  rw [he, orV_of]; rfl

theorem loadC_eq (T : TypeId) (p : Operand) : (loadC P T (evC G p) (slowC P G ⟨d, .load T p, ty, pos, after, g⟩)).run al m nx = OR.of (xop2 P G ⟨d, .load T p, ty, pos, after, g⟩ al (rlOf G al m (.load T p)) nx) := by
  obtain ⟨e, h, he⟩ := evC_eq (G := G) p
  unfold loadC
  rw [h]
  have key : xop2 P G ⟨d, .load T p, ty, pos, after, g⟩ al (rlOf G al m (.load T p)) nx = match xev G al p with
    | some q => (xload P T (of1 G al m p) q).map fun v => (v, [])
    | none => none := rfl
  split
  · rename_i i e1 hi hr heq
    simp only [W.mk.injEq] at heq; subst heq
    show onPtr (e al) _ _ _ = _
    rw [key, he]
    cases hx : xev G al p with
    | none => rfl
    | some q =>
      cases q with
      | ptr l off =>
        show (Option.rec (motive := fun _ => OR) _ _ (tgF m l)) = _
        rw [tgF_eq]
        have ho : of1 G al m p = match tget m l with | some cs => [(l, some cs)] | none => [] := by simp only [of1, hx]; cases tget m l <;> rfl
        cases ht : tget m l with
        | none => simp only [ho, ht]; rfl
        | some cs =>
          simp only [ho, ht]
          show (Bool.rec (motive := fun _ => OR) _ _ (geF cs (Nat.add off i.size) && Nat.blt 0 i.size)) = _
          rw [brec_cond, geF_eq]
          have hx2 : xload P T [(l, some cs)] (.ptr l off) = if off + i.size ≤ cs.length ∧ 0 < i.size then some (.agg ((cs.drop off).take i.size)) else none := by
            simp [xload, lcells, lget, hi, hr]
          simp only [hx2]
          rw [takeF_eq, dropF_eq]
          by_cases hc : off + i.size ≤ cs.length ∧ 0 < i.size
          · have h1 : (decide (Nat.add off i.size ≤ cs.length) && Nat.blt 0 i.size) = true := by simp [Nat.blt]; exact hc
            rw [h1, if_pos hc]; rfl
          · have h1 : (decide (Nat.add off i.size ≤ cs.length) && Nat.blt 0 i.size) = false := by
              rw [Bool.eq_false_iff]; intro h; simp [Nat.blt] at h; exact hc h
            rw [h1, if_neg hc]; rfl
      | rop cs off =>
        show (Bool.rec (motive := fun _ => OR) _ _ (geF cs (Nat.add off i.size) && Nat.blt 0 i.size)) = _
        rw [brec_cond, geF_eq]
        have hx2 : xload P T (of1 G al m p) (.rop cs off) = if off + i.size ≤ cs.length ∧ 0 < i.size then some (.agg ((cs.drop off).take i.size)) else none := by
          simp [xload, lcells, hi, hr]
        simp only [hx2]
        rw [takeF_eq, dropF_eq]
        by_cases hc : off + i.size ≤ cs.length ∧ 0 < i.size
        · have h1 : (decide (Nat.add off i.size ≤ cs.length) && Nat.blt 0 i.size) = true := by simp [Nat.blt]; exact hc
          rw [h1, if_pos hc]; rfl
        · have h1 : (decide (Nat.add off i.size ≤ cs.length) && Nat.blt 0 i.size) = false := by
            rw [Bool.eq_false_iff]; intro h; simp [Nat.blt] at h; exact hc h
          rw [h1, if_neg hc]; rfl
      | _ => rfl
  · rename_i i e1 hi hr heq
    simp only [W.mk.injEq] at heq; subst heq
    show onPtr (e al) _ _ _ = _
    rw [key, he]
    cases hx : xev G al p with
    | none => rfl
    | some q =>
      cases q with
      | ptr l off =>
        show (Option.rec (motive := fun _ => OR) _ _ (tgF m l)) = _
        rw [tgF_eq]
        have ho : of1 G al m p = match tget m l with | some cs => [(l, some cs)] | none => [] := by simp only [of1, hx]; cases tget m l <;> rfl
        cases ht : tget m l with
        | none => simp only [ho, ht]; rfl
        | some cs =>
          simp only [ho, ht]
          show orV (nthF cs off) = _
          have hx2 : xload P T [(l, some cs)] (.ptr l off) = cs[off]? := by
            simp [xload, lcells, lget, hi, hr]
          simp only [hx2]
          rw [nthF_eq, orV_of]
      | rop cs off =>
        show orV (nthF cs off) = _
        have hx2 : xload P T (of1 G al m p) (.rop cs off) = cs[off]? := by
          simp [xload, lcells, hi, hr]
        simp only [hx2]
        rw [nthF_eq, orV_of]
      | _ => rfl
  · rfl

theorem storeC_eq (T : TypeId) (p v : Operand) : (storeC P T d (evC G p) (evC G v) (slowC P G ⟨d, .store T p v, ty, pos, after, g⟩)).run al m nx = OR.of (xop2 P G ⟨d, .store T p v, ty, pos, after, g⟩ al (rlOf G al m (.store T p v)) nx) := by
  obtain ⟨e, h, he⟩ := evC_eq (G := G) p
  obtain ⟨e', h', he'⟩ := evC_eq (G := G) v
  unfold storeC
  rw [h, h']
  split
  · rename_i i e1 e2 hi heq heq'
    simp only [W.mk.injEq] at heq heq'; subst heq; subst heq'
    have key : xop2 P G ⟨none, .store T p v, ty, pos, after, g⟩ al (rlOf G al m (.store T p v)) nx = match (none : Option Tmp), xev G al p, xev G al v, P.info? T with
      | none, some (.ptr l off), some x, some i => match lget (of1 G al m p) l with
        | some (some cells) => if (pcells x).length = i.size ∧ (pcells x).all PV.one = true ∧ off + i.size ≤ cells.length ∧ 0 < i.size then some (.dead, [(l, some (splice cells off (pcells x)))]) else none
        | _ => none
      | _, _, _, _ => none := rfl
    rw [key, hi]
    show onPtr (e al) _ _ _ = _
    rw [he]
    cases hx : xev G al p with
    | none => rfl
    | some q =>
      cases q with
      | ptr l off =>
        show (Option.rec (motive := fun _ => OR) _ _ (tgF m l)) = _
        rw [tgF_eq]
        have ho : of1 G al m p = match tget m l with | some cs => [(l, some cs)] | none => [] := by simp only [of1, hx]; cases tget m l <;> rfl
        cases ht : tget m l with
        | none => simp only [ho, ht]; cases xev G al v <;> rfl
        | some cs =>
          simp only [ho, ht]
          show (Option.rec (motive := fun _ => OR) _ _ (e' al)) = _
          rw [he']
          cases xev G al v with
          | none => rfl
          | some x =>
            show (Bool.rec (motive := fun _ => OR) _ _ (Nat.beq (lenF (cellsF x)) i.size && ((cellsF x).all PV.one && (geF cs (Nat.add off i.size) && Nat.blt 0 i.size)))) = _
            rw [brec_cond, geF_eq, lenF_eq, cellsF_eq, beq_dec, spF_eq]
            simp only [lget, if_true]
            by_cases hc : (pcells x).length = i.size ∧ (pcells x).all PV.one = true ∧ off + i.size ≤ cs.length ∧ 0 < i.size
            · have h1 : (decide ((pcells x).length = i.size) && ((pcells x).all PV.one && (decide (Nat.add off i.size ≤ cs.length) && Nat.blt 0 i.size))) = true := by
                obtain ⟨a, b, c, e⟩ := hc
                rw [b]; simp [Nat.blt]; exact ⟨a, c, e⟩
              rw [h1, if_pos hc]; rfl
            · have h1 : (decide ((pcells x).length = i.size) && ((pcells x).all PV.one && (decide (Nat.add off i.size ≤ cs.length) && Nat.blt 0 i.size))) = false := by
                rw [Bool.eq_false_iff]
                intro h
                simp only [Bool.and_eq_true, decide_eq_true_eq] at h
                exact hc ⟨h.1, h.2.1, h.2.2.1, by have := h.2.2.2; simp [Nat.blt] at this; omega⟩
              rw [h1, if_neg hc]; rfl
      | _ => cases xev G al v <;> rfl
  · rfl
theorem offC_eq (S : TypeId) (x : Operand) (f : Nat) : (offC P S f (evC G x) (slowC P G ⟨d, .fieldAddr S x f, ty, pos, after, g⟩)).run al m nx = OR.of (xop2 P G ⟨d, .fieldAddr S x f, ty, pos, after, g⟩ al (rlOf G al m (.fieldAddr S x f)) nx) := by
  obtain ⟨e, h, he⟩ := evC_eq (G := G) x
  unfold offC
  rw [h]
  split
  · rename_i k _ _ e1 hk heq
    simp only [W.mk.injEq] at heq; subst heq
    have key : xop2 P G ⟨d, .fieldAddr S x f, ty, pos, after, g⟩ al (rlOf G al m (.fieldAddr S x f)) nx = match xev G al x, xoff P S f with
      | some p, some (k, _, _) => (xfieldAddr k p).map fun v => (v, [])
      | _, _ => none := rfl
    rw [key, hk]
    show onPtr (e al) _ _ _ = _
    rw [he]
    cases xev G al x with
    | none => rfl
    | some q => cases q <;> rfl
  · rfl
theorem nilC_eq (x : Operand) : (nilC (evC G x) (slowC P G ⟨d, .nilCheck x, ty, pos, after, g⟩)).run al m nx = OR.of (xop2 P G ⟨d, .nilCheck x, ty, pos, after, g⟩ al (rlOf G al m (.nilCheck x)) nx) := by
  obtain ⟨e, h, he⟩ := evC_eq (G := G) x
  unfold nilC
  rw [h]
  have key : xop2 P G ⟨d, .nilCheck x, ty, pos, after, g⟩ al (rlOf G al m (.nilCheck x)) nx = match xev G al x with
    | some p => if xnil p = true then some (p, []) else none
    | none => none := rfl
  show onPtr (e al) (OR.of (xop2 P G _ al _ nx)) _ _ = _
  rw [he]
  cases hx : xev G al x with
  | none => rfl
  | some q =>
    cases q <;> first | rfl | (rw [key, hx]; rfl)
theorem binC_eq (op : BinOp) (T yt : TypeId) (x y : Operand) : (binC op (evC G x) (evC G y) (slowC P G ⟨d, .binOp op T x y yt, ty, pos, after, g⟩)).run al m nx = OR.of (xop2 P G ⟨d, .binOp op T x y yt, ty, pos, after, g⟩ al (rlOf G al m (.binOp op T x y yt)) nx) := by
  obtain ⟨e, h, he⟩ := evC_eq (G := G) x
  obtain ⟨e', h', he'⟩ := evC_eq (G := G) y
  have arm : ∀ (fk : IntKind → Int → Int → OR), (∀ k a b, xev G al x = some (.int k a) → xev G al y = some (.int k b) → fk k a b = OR.of (xop2 P G ⟨d, .binOp op T x y yt, ty, pos, after, g⟩ al (rlOf G al m (.binOp op T x y yt)) nx)) →
      int2 (e al) (e' al) (OR.of (xop2 P G ⟨d, .binOp op T x y yt, ty, pos, after, g⟩ al (rlOf G al m (.binOp op T x y yt)) nx)) fk = OR.of (xop2 P G ⟨d, .binOp op T x y yt, ty, pos, after, g⟩ al (rlOf G al m (.binOp op T x y yt)) nx) := by
    intro fk hfk
    unfold int2
    rw [he, he']
    cases hx : xev G al x with
    | none => rfl
    | some p =>
      cases p with
      | int k a =>
        show onInt (xev G al y) _ _ = _
        cases hy : xev G al y with
        | none => rfl
        | some q =>
          cases q with
          | int k' b =>
            show (Bool.rec (motive := fun _ => OR) _ _ (Nat.beq (kix k) (kix k'))) = _
            rw [brec_cond, beq_dec]
            by_cases hk : kix k = kix k'
            · have := kix_inj hk; subst this
              simp only [decide_true, cond_true]
              exact hfk k a b hx hy
            · simp only [hk, decide_false, cond_false]
          | _ => rfl
      | _ => rfl
  have xo : ∀ {k a b}, xev G al x = some (.int k a) → xev G al y = some (.int k b) → (op = .add ∨ op = .sub ∨ op = .mul ∨ op = .eql ∨ op = .neq ∨ op = .lss ∨ op = .gtr ∨ op = .leq ∨ op = .geq) →
      xop2 P G ⟨d, .binOp op T x y yt, ty, pos, after, g⟩ al (rlOf G al m (.binOp op T x y yt)) nx = (ibin op k a b).map fun v => (v, []) := by
    intro k a b hx hy hop
    have key : xop P G ⟨d, .binOp op T x y yt, ty, pos, after, g⟩ al (rlOf G al m (.binOp op T x y yt)) nx = match xev G al x, xev G al y with
      | some a, some b => (xbin P op T x y a b).map fun v => (v, [])
      | _, _ => none := rfl
    have xb : xbin P op T x y (.int k a) (.int k b) = ibin op k a b := by
      rcases hop with rfl | rfl | rfl | rfl | rfl | rfl | rfl | rfl | rfl <;> exact if_pos rfl
    have k2 : xop2 P G ⟨d, .binOp op T x y yt, ty, pos, after, g⟩ al (rlOf G al m (.binOp op T x y yt)) nx = xop P G ⟨d, .binOp op T x y yt, ty, pos, after, g⟩ al (rlOf G al m (.binOp op T x y yt)) nx := by
      rcases hop with rfl | rfl | rfl | rfl | rfl | rfl | rfl | rfl | rfl <;> (unfold xop2; simp only [hx, hy])
    rw [k2, key, hx, hy]
    simp only [xb]
  unfold binC
  rw [h, h']
  cases op
  case add => exact arm _ fun k a b hx hy => by rw [xo hx hy (by simp), wrapF_eq]; rfl
  case sub => exact arm _ fun k a b hx hy => by rw [xo hx hy (by simp), wrapF_eq]; rfl
  case mul => exact arm _ fun k a b hx hy => by rw [xo hx hy (by simp), wrapF_eq]; rfl
  case eql => exact arm _ fun k a b hx hy => by rw [xo hx hy (by simp), eqF_eq]; rfl
  case neq => exact arm _ fun k a b hx hy => by rw [xo hx hy (by simp), brec_cond, eqF_eq]; simp [ibin, OR.of, bne]
  case lss => exact arm _ fun k a b hx hy => by rw [xo hx hy (by simp), ltF_eq]; rfl
  case gtr => exact arm _ fun k a b hx hy => by rw [xo hx hy (by simp), ltF_eq]; rfl
  case leq => exact arm _ fun k a b hx hy => by
                rw [xo hx hy (by simp), brec_cond, ltF_eq]; simp only [ibin, Option.map_some, OR.of]
                congr 2
                by_cases hh : b < a
                · have : ¬ a ≤ b := by omega
                  simp [hh, this]
                · have : a ≤ b := by omega
                  simp [hh, this]
  case geq => exact arm _ fun k a b hx hy => by
                rw [xo hx hy (by simp), brec_cond, ltF_eq]; simp only [ibin, Option.map_some, OR.of]
                congr 2
                by_cases hh : a < b
                · have : ¬ a ≥ b := by omega
                  simp [hh, this]
                · have : a ≥ b := by omega
                  simp [hh, this]
  all_goals rfl
end
end Go.SH
