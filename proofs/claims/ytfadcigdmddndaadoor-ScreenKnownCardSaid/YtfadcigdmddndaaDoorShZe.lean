/- The fast run is the run: the whole. -/
import Derived.Test.YtfadcigdmddndaaDoorShZd
set_option linter.unusedVariables false
set_option linter.unusedSimpArgs false
namespace Go.SH

section
variable {P : Program} {G : List (Nat × List PV)} {ih : IH}

theorem X_draw_op {n : Nat} {ops : Array Oper} {d : Option Tmp} {op : Op} {ty : TypeId} {pos : String} {after : Array Edge} {g : Option (Nat × Bool)} {rest : List Oper} {fs : List Fp} {al : Al} {m : Tr} {nx lo : Nat} (h : isCall op = none) :
    Xstep P G ih (.draw n ops (⟨d, op, ty, pos, after, g⟩ :: rest) fs al m nx lo) = match wants ops al ⟨d, op, ty, pos, after, g⟩ with
      | some true => (match xop2 P G ⟨d, op, ty, pos, after, g⟩ (raOf al (slotsOf (opnds op))) (rlOf G (raOf al (slotsOf (opnds op))) m op) nx with
        | some (x, wl) => bif wlOK (rlOf G (raOf al (slotsOf (opnds op))) m op) nx lo wl then
            ih (.draw n ops rest (⟨raOf al (slotsOf (opnds op)), rlOf G (raOf al (slotsOf (opnds op))) m op, x, wl, true, false⟩ :: fs) (oset d x al) (tupd m wl) (nxt nx wl) lo) else none
        | none => none)
      | some false => ih (.draw n ops rest (⟨[], [], .dead, [], false, gdOf ops al ⟨d, op, ty, pos, after, g⟩⟩ :: fs) (oset d .dead al) m nx lo)
      | none => none := by
  cases op <;> first | rfl | skip
  rename_i c
  obtain ⟨callee, args, ts⟩ := c
  cases callee <;> first | rfl | (simp [isCall] at h)
theorem X_draw_call {n : Nat} {ops : Array Oper} {d : Option Tmp} {fo : Operand} {args : Array Operand} {ts : Array TypeId} {ty : TypeId} {pos : String} {after : Array Edge} {g : Option (Nat × Bool)} {rest : List Oper} {fs : List Fp} {al : Al} {m : Tr} {nx lo : Nat} :
    Xstep P G ih (.draw n ops (⟨d, .call ⟨.value fo, args, ts⟩, ty, pos, after, g⟩ :: rest) fs al m nx lo) = match wants ops al ⟨d, .call ⟨.value fo, args, ts⟩, ty, pos, after, g⟩ with
      | some true => (match xev G al fo, xevs G al args.toList with
          | some (.fn f caps), some xs => (match reach m 100000 (labsL (xs ++ caps)) [] with
            | some rl => (match ih (.fn f (xs ++ caps) (tree rl) nx nx) with
              | some (.ret v m' nx') => (match reach m' 100000 (labs v ++ keysL rl) [] with
                | some rl' => ih (.draw n ops rest (⟨raOf al (slotsOf (opnds (.call ⟨.value fo, args, ts⟩))), rl, v, fresh nx rl', true, false⟩ :: fs) (oset d v al) (tupd m (fresh nx rl')) nx' lo)
                | none => none)
              | _ => (match ih (.fn f (xs ++ caps) (tree rl) nx lo) with
                | some (.ret v m' nx') => (match reach m' 100000 (labs v ++ keysL rl) [] with
                  | some rl' => ih (.draw n ops rest (⟨raOf al (slotsOf (opnds (.call ⟨.value fo, args, ts⟩))), rl, v, rl', true, false⟩ :: fs) (oset d v al) (tupd m rl') nx' lo)
                  | none => none)
                | _ => none))
            | none => none)
          | _, _ => none)
      | some false => ih (.draw n ops rest (⟨[], [], .dead, [], false, gdOf ops al ⟨d, .call ⟨.value fo, args, ts⟩, ty, pos, after, g⟩⟩ :: fs) (oset d .dead al) m nx lo)
      | none => none := rfl

theorem drawC_eq {n : Nat} {ops : Array Oper} {o : Oper} {rest : List Oper} {fs : List Fp} {al : Al} {m : Tr} {nx lo : Nat} : (drawC P G n ops o).run ih rest fs al m nx lo = Xstep P G ih (.draw n ops (o :: rest) fs al m nx lo) := by
  obtain ⟨d, op, ty, pos, after, g⟩ := o
  have hg := guardC_eq ops ⟨d, op, ty, pos, after, g⟩
  have hs := setC_eq d
  have ho := fun al m nx => opC_eq (P := P) (G := G) (al := al) (m := m) (nx := nx) ⟨d, op, ty, pos, after, g⟩
  unfold drawC
  generalize guardC ops ⟨d, op, ty, pos, after, g⟩ = gw at *
  generalize opC P G ⟨d, op, ty, pos, after, g⟩ = ow at *
  generalize setC d = sw at *
  obtain ⟨gr⟩ := gw
  obtain ⟨r⟩ := ow
  obtain ⟨st⟩ := sw
  have e2 : ∀ x al, st x al = oset d x al := fun x al => hs x al
  have e3 : ∀ al m nx, r al m nx = OR.of (xop2 P G ⟨d, op, ty, pos, after, g⟩ al (rlOf G al m op) nx) := fun al m nx => ho al m nx
  have e1 : ∀ al run no, gr al run no = match wants ops al ⟨d, op, ty, pos, after, g⟩ with | some true => run | some false => no | none => none := fun al run no => hg al run no
  simp only
  have hcc : isCall op = none ∨ ∃ q, isCall op = some q := by cases isCall op <;> simp
  rcases hcc with hc | ⟨⟨fo, args⟩, hc⟩
  · rw [X_draw_op hc, hc]
    show gr al _ _ = _
    rw [e1]
    cases wants ops al ⟨d, op, ty, pos, after, g⟩ with
    | none => rfl
    | some b =>
      cases b with
      | false => simp only [e2]
      | true =>
        simp only
        rw [e3, OR_of_rec, raF_eq]
        simp only [e2]
        cases xop2 P G ⟨d, op, ty, pos, after, g⟩ (raOf al (slotsOf (opnds op))) (rlOf G (raOf al (slotsOf (opnds op))) m op) nx with
        | none => rfl
        | some q =>
          obtain ⟨x, wl⟩ := q
          cases wl with
          | nil => rfl
          | cons p wl =>
            simp only
            rw [brec_cond, tuF_eq, nxF_eq]
  · obtain ⟨as, ts, rfl, rfl⟩ := isCall_some hc
    rw [X_draw_call, hc]
    obtain ⟨ef, hef, hefe⟩ := evC_eq (G := G) fo
    have hes := evsC_eq (G := G) as.toList
    have hE : ∀ al, (evC G fo).run al = xev G al fo := by rw [hef]; exact hefe
    show gr al _ _ = _
    rw [e1]
    cases wants ops al _ with
    | none => rfl
    | some b =>
      cases b with
      | false => simp only [e2]
      | true =>
        simp only
        rw [onFn_eq, hE, hes]
        simp only [e2, raF_eq, tuF_eq]
        cases xev G al fo with
        | none => rfl
        | some v =>
          cases v with
          | fn f caps =>
            cases xevs G al as.toList with
            | none => rfl
            | some xs =>
              show (Option.rec (motive := fun _ => Option Outc) _ _ (reach m 100000 (labsL (appF xs caps)) [])) = _
              rw [appF_eq]
              simp only
              cases reach m 100000 (labsL (xs ++ caps)) [] with
              | none => rfl
              | some rl =>
                show onRet _ _ _ = _
                rw [onRet_eq, onRet_eq]
                simp only
                cases ih (.fn f (xs ++ caps) (tree rl) nx nx) with
                | none =>
                  simp only
                  cases ih (.fn f (xs ++ caps) (tree rl) nx lo) with
                  | none => rfl
                  | some o => cases o with
                    | st => rfl
                    | ret v m' nx' =>
                      simp only
                      cases reach m' 100000 (labs v ++ keysL rl) [] <;> rfl
                | some o => cases o with
                  | st =>
                    simp only
                    cases ih (.fn f (xs ++ caps) (tree rl) nx lo) with
                    | none => rfl
                    | some o => cases o with
                      | st => rfl
                      | ret v m' nx' =>
                        simp only
                        cases reach m' 100000 (labs v ++ keysL rl) [] <;> rfl
                  | ret v m' nx' =>
                    simp only
                    cases reach m' 100000 (labs v ++ keysL rl) [] <;> rfl
          | _ => rfl

theorem fnC_eq {f : FuncId} {args : List PV} {m : Tr} {nx lo : Nat} : (fnC P G f).run ih args m nx lo = Xstep P G ih (.fn f args m nx lo) := by
  have e : Xstep P G ih (.fn f args m nx lo) = match P.funcs[f]? with
    | some fn => (match fn.body with
      | some c => bif Nat.ble args.length fn.ntmps then (match ih (.code fn.ntmps c (entry args 0) m nx lo) with
        | some (.st e al' m' nx') => bif isEnd e then (match xresT P al' m' fn.results.toList with
          | some xs => some (.ret (rtup xs) m' nx')
          | none => none) else none
        | _ => none) else none
      | none => none)
    | none => none := rfl
  rw [e]
  unfold fnC
  cases P.funcs[f]? with
  | none => rfl
  | some fn =>
    simp only
    cases fn.body with
    | none => rfl
    | some c =>
      show (Bool.rec (motive := fun _ => Option Outc) _ _ (Nat.ble (lenF args) fn.ntmps)) = _
      rw [brec_cond, lenF_eq, onSt_eq]
      simp only
      cases ih (.code fn.ntmps c (entry args 0) m nx lo) with
      | none => rfl
      | some o => cases o with
        | ret => rfl
        | st e al' m' nx' =>
          simp only
          rw [brec_cond]
          cases xresT P al' m' fn.results.toList <;> rfl

theorem Ystep_eq (t : Task) : Ystep P G ih t = Xstep P G ih t := by
  cases t with
  | code n c al m nx lo => exact codeC_eq
  | ops n ops rest al m nx lo =>
    cases rest with
    | nil => rfl
    | cons o rest => exact opsC_eq
  | draw n ops rest fs al m nx lo =>
    cases rest with
    | nil =>
      have e : Xstep P G ih (.draw n ops [] fs al m nx lo) = bif edgesOK ops && (indepS ops && drawS n ops) then (bif pureL fs || (nodupAll fs && indepD ops fs.reverse) then some (.st .normal al m nx) else none) else none := rfl
      rw [e]
      show (Bool.rec (motive := fun _ => Option Outc) none (Bool.rec (motive := fun _ => Option Outc) (Bool.rec (motive := fun _ => Option Outc) none (some (.st .normal al m nx)) (nodupAll fs && indepD ops fs.reverse)) (some (.st .normal al m nx)) (pureF fs)) (staticF n ops)) = _
      rw [brec_cond, brec_cond, brec_cond, pureF_eq]
      unfold staticF
      cases edgesOK ops && (indepS ops && drawS n ops) <;> cases pureL fs <;> cases nodupAll fs && indepD ops fs.reverse <;> rfl
    | cons o rest => exact drawC_eq
  | fn f args m nx lo => exact fnC_eq

/-- THE FAST RUN IS THE RUN. -/
theorem Y_eq : ∀ (k : Nat), Y P G k = X P G k
  | 0 => rfl
  | k + 1 => by
    show (fun t => Ystep P G (Y P G k) t) = (fun t => Xstep P G (X P G k) t)
    rw [Y_eq k]
    funext t
    exact Ystep_eq t
end

def toldV : Option Outc → Option PV
  | some (.ret v _ _) => some v
  | _ => none
/-- What a fast run tells: a contract. -/
theorem Y_pure {E : Env} (hP : POK E) {k : Nat} {f : FuncId} {v : PV} (hv : noRo v = true) (h : toldV (Y E.P E.G k (.fn f [] .nil 0 0)) = some v) : Pure E f [] v := by
  rw [Y_eq] at h
  cases hx : X E.P E.G k (.fn f [] .nil 0 0) with
  | none => rw [hx] at h; simp [toldV] at h
  | some o =>
    cases o with
    | st => rw [hx] at h; simp [toldV] at h
    | ret v' m nx =>
      rw [hx] at h
      simp [toldV] at h; subst h
      obtain ⟨R, hR⟩ := X_fn hP hx
      refine ACalls.trim hP.g (LL := []) hR (fun L' _ => ⟨fun l y h => by simp [lget] at h, fun l h => by simp [lget] at h⟩) ?_ rfl
      have key : ∀ x, noRo x = true → within (hasL []) x = true := by
        intro x
        apply PV.rec (motive_1 := fun x => noRo x = true → within (hasL []) x = true) (motive_2 := fun xs => noRoL xs = true → withinL (hasL []) xs = true)
        all_goals intros
        all_goals simp_all [noRo, noRoL, within, withinL]
      exact key _ hv
end Go.SH
