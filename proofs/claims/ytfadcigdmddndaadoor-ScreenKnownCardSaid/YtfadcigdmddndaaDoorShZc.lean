/- The fast run is the run: more operations; all of them. -/
import Derived.Test.YtfadcigdmddndaaDoorShZb
set_option linter.unusedVariables false
set_option linter.unusedSimpArgs false
namespace Go.SH

section
variable {P : Program} {G : List (Nat × List PV)} {d : Option Tmp} {ty : TypeId} {pos : String} {after : Array Edge} {g : Option (Nat × Bool)} {al : Al} {m : Tr} {nx : Nat}

theorem idxC_eq (T : TypeId) (x i : Operand) : (idxC P T (evC G x) (evC G i) (slowC P G ⟨d, .indexAddr T x i, ty, pos, after, g⟩)).run al m nx = OR.of (xop2 P G ⟨d, .indexAddr T x i, ty, pos, after, g⟩ al (rlOf G al m (.indexAddr T x i)) nx) := by
  obtain ⟨e, h, he⟩ := evC_eq (G := G) x
  obtain ⟨e', h', he'⟩ := evC_eq (G := G) i
  have key : xop2 P G ⟨d, .indexAddr T x i, ty, pos, after, g⟩ al (rlOf G al m (.indexAddr T x i)) nx = match xev G al x, xev G al i with
    | some p, some (.int _ k) => (xidx P T p k).map fun v => (v, [])
    | _, _ => none := rfl
  unfold idxC
  rw [h, h']
  split
  · rename_i n et e1 e2 hu heq heq'
    simp only [W.mk.injEq] at heq heq'; subst heq; subst heq'
    split
    · rename_i ie hi
      rw [key]
      show onInt (e' al) _ _ = _
      rw [he']
      cases hy : xev G al i with
      | none => cases xev G al x <;> rfl
      | some q =>
        cases q with
        | int k j =>
          cases j with
          | negSucc j =>
            show OR.no = _
            cases hx : xev G al x with
            | none => rfl
            | some p =>
              have : xidx P T p (Int.negSucc j) = none := by unfold xidx; rw [hu]; simp only [hi]; rw [if_neg (by omega)]
              simp only [this]; rfl
          | ofNat j =>
            show (Bool.rec (motive := fun _ => OR) _ _ (Nat.blt j n)) = _
            rw [brec_cond]
            cases hx : xev G al x with
            | none =>
              rw [he, hx]
              cases Nat.blt j n <;> rfl
            | some p =>
              rw [he, hx]
              have hxi : xidx P T p (Int.ofNat j) = if j < n then xfieldAddr (j * ie.size) p else none := by
                unfold xidx; rw [hu]; simp only [hi]
                by_cases hj : j < n
                · rw [if_pos (by simp only [Int.ofNat_eq_natCast]; omega), if_pos hj]; rfl
                · rw [if_neg (by simp only [Int.ofNat_eq_natCast]; omega), if_neg hj]
              simp only [hxi]
              by_cases hj : j < n
              · have hb : Nat.blt j n = true := by simp [Nat.blt]; omega
                rw [hb, if_pos hj]
                cases p <;> rfl
              · have hb : Nat.blt j n = false := by rw [Bool.eq_false_iff]; simp [Nat.blt]; omega
                rw [hb, if_neg hj]; rfl
        | _ => cases xev G al x <;> rfl
    · rfl
  · rename_i et e1 e2 hu heq heq'
    simp only [W.mk.injEq] at heq heq'; subst heq; subst heq'
    split
    · rename_i ie hi
      rw [key]
      show onInt (e' al) _ _ = _
      rw [he']
      cases hy : xev G al i with
      | none => cases xev G al x <;> rfl
      | some q =>
        cases q with
        | int k j =>
          cases j with
          | negSucc j =>
            show OR.no = _
            cases hx : xev G al x with
            | none => rfl
            | some p =>
              have : xidx P T p (Int.negSucc j) = none := by
                unfold xidx; rw [hu]; simp only [hi]
                cases xlen p with
                | none => rfl
                | some n => simp only; rw [if_neg (by omega)]
              simp only [this]; rfl
          | ofNat j =>
            show onSl (e al) _ _ _ _ = _
            rw [he]
            cases hx : xev G al x with
            | none => rfl
            | some p =>
              have hxi : ∀ n, xlen p = some n → xidx P T p (Int.ofNat j) = if j < n then xindexAddr ie.size (Int.ofNat j) p else none := by
                intro n hn
                unfold xidx; rw [hu]; simp only [hi, hn]
                by_cases hj : j < n
                · rw [if_pos (by simp only [Int.ofNat_eq_natCast]; omega), if_pos hj]
                · rw [if_neg (by simp only [Int.ofNat_eq_natCast]; omega), if_neg hj]
              have hxn : xlen p = none → xidx P T p (Int.ofNat j) = none := by
                intro hn
                unfold xidx; rw [hu]; simp only [hi, hn]
              have hc : ∀ n, (decide (j < n) = Nat.blt j n) := fun n => by
                rw [Bool.eq_iff_iff]; simp [Nat.blt]; omega
              cases p with
              | nils => simp only [hxi 0 rfl]; rfl
              | str s =>
                simp only [hxi s.length rfl]
                by_cases hj : j < s.length
                · rw [if_pos hj]; rfl
                · rw [if_neg hj]; rfl
              | ro cells n co =>
                simp only [hxi n rfl]
                show (Bool.rec (motive := fun _ => OR) _ _ (Nat.blt j n)) = _
                rw [brec_cond, ← hc]
                by_cases hj : j < n
                · simp only [hj, decide_true, cond_true, if_true]; rfl
                · simp only [hj, decide_false, cond_false, if_false]; rfl
              | rw l off n sz co =>
                simp only [hxi n rfl]
                show (Bool.rec (motive := fun _ => OR) _ _ (Nat.blt j n)) = _
                rw [brec_cond, ← hc]
                by_cases hj : j < n
                · simp only [hj, decide_true, cond_true, if_true]; rfl
                · simp only [hj, decide_false, cond_false, if_false]; rfl
              | _ => simp only [hxn rfl]; rfl
        | _ => cases xev G al x <;> rfl
    · rfl
  · rfl

theorem pickC_eq (c a b : Operand) : (pickC (evC G c) (evC G a) (evC G b)).run al m nx = OR.of (xop2 P G ⟨d, .pick c a b, ty, pos, after, g⟩ al (rlOf G al m (.pick c a b)) nx) := by
  obtain ⟨e, h, he⟩ := evC_eq (G := G) c
  obtain ⟨e', h', he'⟩ := evC_eq (G := G) a
  obtain ⟨e'', h'', he''⟩ := evC_eq (G := G) b
  have key : xop2 P G ⟨d, .pick c a b, ty, pos, after, g⟩ al (rlOf G al m (.pick c a b)) nx = match xev G al c with
    | some p => (xpick p (xev G al a) (xev G al b)).map fun v => (v, [])
    | none => none := rfl
  unfold pickC
  rw [h, h', h'', key]
  show onBool (e al) _ _ = _
  rw [he]
  cases xev G al c with
  | none => rfl
  | some q =>
    cases q with
    | bool t =>
      show orV (Bool.rec (motive := fun _ => Option PV) (e'' al) (e' al) t) = _
      rw [brec_cond, he', he'', orV_of]
      have : xpick (.bool t) (xev G al a) (xev G al b) = bif t then xev G al a else xev G al b := by
        unfold xpick
        simp only
        split
        · rename_i h1 h2; rw [h1, h2]; cases t <;> rfl
        · cases t <;> rfl
      simp only [this]
    | _ => rfl

theorem lenC_eq (x : Operand) (t : TypeId) : (lenC P t (evC G x) (slowC P G ⟨d, .call ⟨.builtin .len, ⟨[x]⟩, ⟨[t]⟩⟩, ty, pos, after, g⟩)).run al m nx =
    OR.of (xop2 P G ⟨d, .call ⟨.builtin .len, ⟨[x]⟩, ⟨[t]⟩⟩, ty, pos, after, g⟩ al (rlOf G al m (.call ⟨.builtin .len, ⟨[x]⟩, ⟨[t]⟩⟩)) nx) := by
  obtain ⟨e, h, he⟩ := evC_eq (G := G) x
  unfold lenC
  rw [h]
  split
  · rename_i et e1 hu heq
    simp only [W.mk.injEq] at heq; subst heq
    have key : ∀ p, xev G al x = some p → xop2 P G ⟨d, .call ⟨.builtin .len, ⟨[x]⟩, ⟨[t]⟩⟩, ty, pos, after, g⟩ al (rlOf G al m (.call ⟨.builtin .len, ⟨[x]⟩, ⟨[t]⟩⟩)) nx =
        if lenTy P t p = true then (match xlen p with | some m => some (.int .i64 (m : Int), []) | none => none) else none := by
      intro p hp
      have hx : xevs G al [x] = some [p] := by simp [xevs, hp]
      unfold xop2 xop
      simp only [hx, hu]
      cases lenTy P t p <;> cases xlen p <;> rfl
    have keyn : xev G al x = none → xop2 P G ⟨d, .call ⟨.builtin .len, ⟨[x]⟩, ⟨[t]⟩⟩, ty, pos, after, g⟩ al (rlOf G al m (.call ⟨.builtin .len, ⟨[x]⟩, ⟨[t]⟩⟩)) nx = none := by
      intro hp
      have hx : xevs G al [x] = none := by simp [xevs, hp]
      unfold xop2 xop
      simp only [hx]
    show onSl (e al) _ _ _ _ = _
    rw [he]
    cases hx : xev G al x with
    | none => rw [keyn hx]; rfl
    | some p =>
      rw [key p hx]
      have hl : lenTy P t p = (match p with | .nils => true | .ro _ _ _ => true | .rw _ _ _ _ _ => true | _ => false) := by
        unfold lenTy; rw [hu]; cases p <;> rfl
      rw [hl]
      cases p <;> rfl
  · rfl

theorem newC_eq (T : TypeId) : (newC (zcells P T) (slowC P G ⟨d, .alloc T, ty, pos, after, g⟩)).run al m nx = OR.of (xop2 P G ⟨d, .alloc T, ty, pos, after, g⟩ al (rlOf G al m (.alloc T)) nx) := by
  have key : xop2 P G ⟨d, .alloc T, ty, pos, after, g⟩ al (rlOf G al m (.alloc T)) nx = (zcells P T).map fun z => (.ptr nx 0, [(nx, some z)]) := rfl
  unfold newC
  split
  · rename_i z hz; rw [key, hz]; rfl
  · rfl
theorem boxC_eq (T : TypeId) (x : Operand) : (boxC (evC G x)).run al m nx = OR.of (xop2 P G ⟨d, .box T x, ty, pos, after, g⟩ al (rlOf G al m (.box T x)) nx) := by
  obtain ⟨e, h, he⟩ := evC_eq (G := G) x
  have key : xop2 P G ⟨d, .box T x, ty, pos, after, g⟩ al (rlOf G al m (.box T x)) nx = match xev G al x with
    | some v => if (pcells v).all PV.one = true then some (.ptr nx 0, [(nx, some (pcells v))]) else none
    | none => none := rfl
  unfold boxC
  rw [h, key]
  show (Option.rec (motive := fun _ => OR) _ _ (e al)) = _
  rw [he]
  cases xev G al x with
  | none => rfl
  | some v =>
    show (Bool.rec (motive := fun _ => OR) _ _ ((cellsF v).all PV.one)) = _
    rw [brec_cond, cellsF_eq]
    cases hc : (pcells v).all PV.one with
    | true => simp only [cond_true, hc, if_true]; rfl
    | false => simp [hc]; rfl
theorem extC_eq (x : Operand) (i : Nat) : (extC i (evC G x)).run al m nx = OR.of (xop2 P G ⟨d, .extract x i, ty, pos, after, g⟩ al (rlOf G al m (.extract x i)) nx) := by
  obtain ⟨e, h, he⟩ := evC_eq (G := G) x
  have key : xop2 P G ⟨d, .extract x i, ty, pos, after, g⟩ al (rlOf G al m (.extract x i)) nx = match xev G al x with
    | some (.tup vs) => (vs[i]?).map fun v => (v, [])
    | _ => none := rfl
  unfold extC
  rw [h, key]
  show onTup (e al) _ _ = _
  rw [he]
  cases xev G al x with
  | none => rfl
  | some v =>
    cases v with
    | tup vs =>
      show orV (nthF vs i) = _
      rw [nthF_eq, orV_of]
    | _ => rfl
theorem notC_eq (op : UnOp) (T : TypeId) (x : Operand) : (notC op (evC G x) (slowC P G ⟨d, .unOp op T x, ty, pos, after, g⟩)).run al m nx = OR.of (xop2 P G ⟨d, .unOp op T x, ty, pos, after, g⟩ al (rlOf G al m (.unOp op T x)) nx) := by
  obtain ⟨e, h, he⟩ := evC_eq (G := G) x
  unfold notC
  rw [h]
  split
  · rename_i e1 heq
    simp only [W.mk.injEq] at heq; subst heq
    have key : xop2 P G ⟨d, .unOp .not T x, ty, pos, after, g⟩ al (rlOf G al m (.unOp .not T x)) nx = match xev G al x with
      | some a => (xun .not a).map fun v => (v, [])
      | none => none := rfl
    rw [key]
    show onBool (e al) _ _ = _
    rw [he]
    cases xev G al x with
    | none => rfl
    | some v =>
      cases v with
      | bool b => cases b <;> rfl
      | _ => rfl
  · rfl
theorem convC_eq (s t : TypeId) (x : Operand) : (convC P s t (evC G x) (slowC P G ⟨d, .convert s t x, ty, pos, after, g⟩)).run al m nx = OR.of (xop2 P G ⟨d, .convert s t x, ty, pos, after, g⟩ al (rlOf G al m (.convert s t x)) nx) := by
  obtain ⟨e, h, he⟩ := evC_eq (G := G) x
  unfold convC
  rw [h]
  split
  · rename_i ks kt e1 sl hs ht heq hsl
    simp only [W.mk.injEq] at heq; subst heq
    show onInt (e al) (sl al m nx) _ = _
    have hslow : sl al m nx = OR.of (xop2 P G ⟨d, .convert s t x, ty, pos, after, g⟩ al (rlOf G al m (.convert s t x)) nx) := by
      have := congrArg (fun (w : W (Al → Tr → Nat → OR)) => w.run al m nx) hsl
      exact this.symm
    rw [he]
    cases hx : xev G al x with
    | none => exact hslow
    | some v =>
      cases v with
      | int k n =>
        have : xop2 P G ⟨d, .convert s t x, ty, pos, after, g⟩ al (rlOf G al m (.convert s t x)) nx = some (.int kt (kt.wrap n), []) := by
          unfold xop2
          simp only [hx, hs, ht]
          unfold xop
          simp only [hx]
          simp [xconv, hs, ht]
        rw [this]
        show OR.v (.int kt (wrapF kt n)) = _
        rw [wrapF_eq]; rfl
      | _ => exact hslow
  · rfl

theorem opC_eq (o : Oper) : (opC P G o).run al m nx = OR.of (xop2 P G o al (rlOf G al m o.op) nx) := by
  obtain ⟨d, op, ty, pos, after, g⟩ := o
  unfold opC
  simp only
  split
  · exact moveC_eq _
  · exact assignC_eq _
  · exact loadC_eq _ _
  · exact storeC_eq _ _ _
  · exact offC_eq _ _ _
  · exact nilC_eq _
  · exact idxC_eq _ _ _
  · exact binC_eq _ _ _ _ _
  · exact pickC_eq _ _ _
  · exact lenC_eq _ _
  · exact newC_eq _
  · exact boxC_eq _ _
  · exact extC_eq _ _
  · exact notC_eq _ _ _
  · exact convC_eq _ _ _
  · rfl
end
end Go.SH
