/- The fast run is the run: statements; the whole. -/
import Derived.Test.YtfadcigdmddndaaDoorShZc
import Derived.Test.YtfadcigdmddndaaDoorShXf
set_option linter.unusedVariables false
set_option linter.unusedSimpArgs false
namespace Go.SH

section
variable {P : Program} {G : List (Nat × List PV)} {ih : IH}

theorem onSt_eq (r : Option Outc) (k : Exit → Al → Tr → Nat → Option Outc) : onSt r k = match r with | some (.st e al m nx) => k e al m nx | _ => none := by
  cases r with
  | none => rfl
  | some o => cases o <;> rfl
theorem onRet_eq (r : Option Outc) (no : Option Outc) (k : PV → Tr → Nat → Option Outc) : onRet r no k = match r with | some (.ret v m nx) => k v m nx | _ => no := by
  cases r with
  | none => rfl
  | some o => cases o <;> rfl
theorem raF_eq (al : Al) : ∀ (ts : List Nat), raF al ts = raOf al ts
  | [] => rfl
  | t :: r => by
    show (Option.rec (motive := fun _ => Al) (raF al r) (fun x => (t, x) :: raF al r) (lgF al t)) = _
    rw [raF_eq al r, lgF_eq, raOf]
    cases lget al t <;> rfl
theorem keysF_eq : ∀ (al : Al), keysF al = al.map (·.1)
  | [] => rfl
  | p :: r => by show p.1 :: keysF r = _; rw [keysF_eq r]; rfl
theorem forceF_eq (k : Option Outc) : ∀ (al : Al), forceF al k = k
  | [] => rfl
  | p :: r => forceF_eq k r
theorem nxF_eq (nx : Nat) (wl : Lb) : nxF nx wl = nxt nx wl := by cases wl <;> rfl
theorem pureF_eq : ∀ (fs : List Fp), pureF fs = pureL fs
  | [] => rfl
  | f :: r => by
    show (List.rec (motive := fun _ => Bool) (pureF r) (fun _ _ _ => false) f.wl) = _
    rw [pureF_eq r]
    unfold pureL
    rw [List.all_cons]
    cases f.wl <;> simp

theorem codeC_eq {n : Nat} {c : Code} {al : Al} {m : Tr} {nx lo : Nat} : (codeC P G c).run ih n al m nx lo = Xstep P G ih (.code n c al m nx lo) := by
  unfold codeC
  split
  · rfl
  · rename_i x y
    have e : Xstep P G ih (.code n (.seq x y) al m nx lo) = match ih (.code n x al m nx lo) with
      | some (.st e al' m' nx') => (match e with | .normal => ih (.code n y al' m' nx' lo) | e => some (.st e al' m' nx'))
      | _ => none := rfl
    rw [e]
    show onSt _ _ = _
    rw [onSt_eq]
    cases ih (.code n x al m nx lo) with
    | none => rfl
    | some o => cases o with
      | st e al' m' nx' => cases e <;> rfl
      | ret => rfl
  · rename_i t x y
    have e : Xstep P G ih (.code n (.cond (.tmp t) x y) al m nx lo) = match lget al t with
      | some (.bool b) => bif b then ih (.code n x al m nx lo) else ih (.code n y al m nx lo)
      | _ => none := rfl
    rw [e]
    show onBool (lgF al t) _ _ = _
    rw [lgF_eq]
    cases lget al t with
    | none => rfl
    | some v => cases v with
      | bool b =>
        show (Bool.rec (motive := fun _ => Option Outc) _ _ b) = _
        rw [brec_cond]
      | _ => rfl
  · rename_i b x y
    cases b <;> rfl
  · rename_i i c
    have e : Xstep P G ih (.code n (.block i c) al m nx lo) = match ih (.code n c al m nx lo) with
      | some (.st e al' m' nx') => (match e with | .exit j => bif j.beq i then some (.st .normal al' m' nx') else some (.st (.exit j) al' m' nx') | e => some (.st e al' m' nx'))
      | _ => none := rfl
    rw [e]
    show onSt _ _ = _
    rw [onSt_eq]
    cases ih (.code n c al m nx lo) with
    | none => rfl
    | some o => cases o with
      | st e al' m' nx' =>
        cases e with
        | exit j =>
          show (Bool.rec (motive := fun _ => Option Outc) _ _ (Nat.beq j i)) = _
          rw [brec_cond]
        | _ => rfl
      | ret => rfl
  · rename_i c
    have e : Xstep P G ih (.code n (.loop c) al m nx lo) = match ih (.code n c al m nx lo) with
      | some (.st e al' m' nx') => (match e with | .normal => ih (.code n (.loop c) (raOf al' (al.map (·.1))) m' nx' lo) | e => some (.st e al' m' nx'))
      | _ => none := rfl
    rw [e]
    show onSt _ _ = _
    rw [onSt_eq]
    cases ih (.code n c al m nx lo) with
    | none => rfl
    | some o => cases o with
      | st e al' m' nx' =>
        cases e with
        | normal =>
          show forceF _ _ = _
          rw [forceF_eq, raF_eq, keysF_eq]
        | _ => rfl
      | ret => rfl
  · rfl
  · rfl
  · rfl
  · rfl
  · rfl
  · rename_i h1 h2 h3 h4 h5 h6 h7 h8 h9 h10 h11
    cases c with
    | skip => exact absurd rfl h1
    | seq x y => exact absurd rfl (h2 x y)
    | cond o x y =>
      cases o with
      | tmp t => exact absurd rfl (h3 t x y)
      | const v => cases v <;> first | rfl | exact absurd rfl (h4 _ x y)
      | _ => rfl
    | block i c => exact absurd rfl (h5 i c)
    | loop c => exact absurd rfl (h6 c)
    | exit i => exact absurd rfl (h7 i)
    | ret => exact absurd rfl h8
    | label l => exact absurd rfl (h9 l)
    | region id ops dr => cases dr <;> first | exact absurd rfl (h10 id ops) | exact absurd rfl (h11 id ops)
    | _ => rfl

theorem guardC_eq (ops : Array Oper) (o : Oper) (al : Al) (run no : Option Outc) : (guardC ops o).run al run no = match wants ops al o with | some true => run | some false => no | none => none := by
  unfold guardC wants
  split
  · rename_i hg; rw [hg]
  · rename_i j want hg
    rw [hg]
    simp only
    split
    · rename_i d hd
      simp only [hd]
      show (Option.rec (motive := fun _ => Option Outc) _ _ (lgF al d)) = _
      rw [lgF_eq]
      cases lget al d with
      | none => rfl
      | some v => cases v with
        | bool b =>
          show (Bool.rec (motive := fun _ => Option Outc) no run (b == want)) = (match some (b == want) with | some true => run | some false => no | none => none)
          rw [brec_cond]
          cases b == want <;> rfl
        | _ => rfl
    · rename_i hd
      simp only [hd]

theorem evsC_eq : ∀ (xs : List Operand) (al : Al), (evsC G xs).run al = xevs G al xs
  | [], al => rfl
  | x :: r, al => by
    obtain ⟨e, h, he⟩ := evC_eq (G := G) x
    have hr := evsC_eq r al
    show (match evC G x, evsC G r with | ⟨e⟩, ⟨es⟩ => (⟨fun al => Option.rec none (fun v => Option.rec none (fun vs => some (v :: vs)) (es al)) (e al)⟩ : W (Al → Option (List PV)))).run al = _
    rw [h]
    generalize evsC G r = w at *
    obtain ⟨es⟩ := w
    show (Option.rec (motive := fun _ => Option (List PV)) none (fun v => Option.rec none (fun vs => some (v :: vs)) (es al)) (e al)) = _
    have hr' : es al = xevs G al r := hr
    have e : xevs G al (x :: r) = match xev G al x, xevs G al r with | some x, some xs => some (x :: xs) | _, _ => none := rfl
    rw [he, hr', e]
    cases xev G al x <;> cases xevs G al r <;> rfl

theorem setC_eq (d : Option Tmp) (x : PV) (al : Al) : (setC d).run x al = oset d x al := by cases d <;> rfl

theorem onFn_eq (r : Option PV) (no : Option Outc) (k : FuncId → List PV → Option Outc) : onFn r no k = match r with | some (.fn f c) => k f c | _ => no := by
  cases r with
  | none => rfl
  | some v => cases v <;> rfl

theorem OR_of_rec (r : Option (PV × Lb)) (kv : PV → Option Outc) (kw : PV → Lb → Option Outc) : (OR.rec (motive := fun _ => Option Outc) none kv kw (OR.of r)) = match r with | none => none | some (x, []) => kv x | some (x, wl) => kw x wl := by
  cases r with
  | none => rfl
  | some p => obtain ⟨x, wl⟩ := p; cases wl <;> rfl

theorem isCall_some {op : Op} {fo : Operand} {args : List Operand} (h : isCall op = some (fo, args)) : ∃ (as : Array Operand) (ts : Array TypeId), op = .call ⟨.value fo, as, ts⟩ ∧ as.toList = args := by
  unfold isCall at h
  split at h
  · rename_i fo' as ts
    simp only [Option.some.injEq, Prod.mk.injEq] at h
    exact ⟨as, ts, by rw [h.1], h.2⟩
  · simp at h

theorem X_ops_op {n : Nat} {ops : Array Oper} {d : Option Tmp} {op : Op} {ty : TypeId} {pos : String} {after : Array Edge} {g : Option (Nat × Bool)} {rest : List Oper} {al : Al} {m : Tr} {nx lo : Nat} (h : isCall op = none) :
    Xstep P G ih (.ops n ops (⟨d, op, ty, pos, after, g⟩ :: rest) al m nx lo) = match wants ops al ⟨d, op, ty, pos, after, g⟩ with
      | some true => (match xop2 P G ⟨d, op, ty, pos, after, g⟩ al (rlOf G al m op) nx with
        | some (x, wl) => bif dstOK n d && wlOK (rlOf G al m op) nx lo wl then ih (.ops n ops rest (oset d x al) (tupd m wl) (nxt nx wl) lo) else none
        | none => none)
      | some false => bif dstOK n d then ih (.ops n ops rest (oset d .dead al) m nx lo) else none
      | none => none := by
  cases op <;> first | rfl | skip
  rename_i c
  obtain ⟨callee, args, ts⟩ := c
  cases callee <;> first | rfl | (simp [isCall] at h)
theorem X_ops_call {n : Nat} {ops : Array Oper} {d : Option Tmp} {fo : Operand} {args : Array Operand} {ts : Array TypeId} {ty : TypeId} {pos : String} {after : Array Edge} {g : Option (Nat × Bool)} {rest : List Oper} {al : Al} {m : Tr} {nx lo : Nat} :
    Xstep P G ih (.ops n ops (⟨d, .call ⟨.value fo, args, ts⟩, ty, pos, after, g⟩ :: rest) al m nx lo) = match wants ops al ⟨d, .call ⟨.value fo, args, ts⟩, ty, pos, after, g⟩ with
      | some true => (match xev G al fo, xevs G al args.toList with
          | some (.fn f caps), some xs => (match ih (.fn f (xs ++ caps) m nx lo) with
            | some (.ret v m' nx') => bif dstOK n d then ih (.ops n ops rest (oset d v al) m' nx' lo) else none
            | _ => none)
          | _, _ => none)
      | some false => bif dstOK n d then ih (.ops n ops rest (oset d .dead al) m nx lo) else none
      | none => none := rfl

theorem opsC_eq {n : Nat} {ops : Array Oper} {o : Oper} {rest : List Oper} {al : Al} {m : Tr} {nx lo : Nat} : (opsC P G n ops o).run ih rest al m nx lo = Xstep P G ih (.ops n ops (o :: rest) al m nx lo) := by
  obtain ⟨d, op, ty, pos, after, g⟩ := o
  have hg := guardC_eq ops ⟨d, op, ty, pos, after, g⟩
  have hs := setC_eq d
  have ho := fun al m nx => opC_eq (P := P) (G := G) (al := al) (m := m) (nx := nx) ⟨d, op, ty, pos, after, g⟩
  unfold opsC
  generalize guardC ops ⟨d, op, ty, pos, after, g⟩ = gw at *
  generalize opC P G ⟨d, op, ty, pos, after, g⟩ = ow at *
  generalize setC d = sw at *
  obtain ⟨gr⟩ := gw
  obtain ⟨r⟩ := ow
  obtain ⟨st⟩ := sw
  have e2 : ∀ x al, st x al = oset d x al := fun x al => hs x al
  have e3 : ∀ al m nx, r al m nx = OR.of (xop2 P G ⟨d, op, ty, pos, after, g⟩ al (rlOf G al m op) nx) := fun al m nx => ho al m nx
  have e1 : ∀ al run no, gr al run no = match wants ops al ⟨d, op, ty, pos, after, g⟩ with | some true => run | some false => no | none => none := fun al run no => hg al run no
  simp only
  have hcc : isCall op = none ∨ ∃ q, isCall op = some q := by cases isCall op <;> simp
  rcases hcc with hc | ⟨⟨fo, args⟩, hc⟩
  · rw [X_ops_op hc, hc]
    cases hd : dstOK n d with
    | false =>
      show none = _
      cases wants ops al ⟨d, op, ty, pos, after, g⟩ with
      | none => rfl
      | some b =>
        cases b with
        | false => rfl
        | true =>
          simp only
          cases xop2 P G ⟨d, op, ty, pos, after, g⟩ al (rlOf G al m op) nx with
          | none => rfl
          | some q => rfl
    | true =>
      show gr al _ _ = _
      rw [e1]
      cases wants ops al ⟨d, op, ty, pos, after, g⟩ with
      | none => rfl
      | some b =>
        cases b with
        | false => simp only [e2]; rfl
        | true =>
          simp only
          rw [e3, OR_of_rec]
          simp only [e2]
          cases xop2 P G ⟨d, op, ty, pos, after, g⟩ al (rlOf G al m op) nx with
          | none => rfl
          | some q =>
            obtain ⟨x, wl⟩ := q
            cases wl with
            | nil => rfl
            | cons p wl =>
              simp only
              rw [brec_cond, tuF_eq, nxF_eq]; rfl
  · obtain ⟨as, ts, rfl, rfl⟩ := isCall_some hc
    rw [X_ops_call, hc]
    obtain ⟨ef, hef, hefe⟩ := evC_eq (G := G) fo
    have hes := evsC_eq (G := G) as.toList
    have hE : ∀ al, (evC G fo).run al = xev G al fo := by rw [hef]; exact hefe
    cases hd : dstOK n d with
    | false =>
      show none = _
      cases wants ops al _ with
      | none => rfl
      | some b =>
        cases b with
        | false => rfl
        | true =>
          simp only [cond_false]
          split
          · split <;> rfl
          · rfl
    | true =>
      show gr al _ _ = _
      rw [e1]
      cases wants ops al _ with
      | none => rfl
      | some b =>
        cases b with
        | false => simp only [e2]; rfl
        | true =>
          simp only
          rw [onFn_eq, hE, hes]
          simp only [e2]
          cases xev G al fo with
          | none => rfl
          | some v =>
            cases v with
            | fn f caps =>
              cases xevs G al as.toList with
              | none => rfl
              | some xs =>
                show onRet _ _ _ = _
                rw [onRet_eq, appF_eq]
                rfl
            | _ => rfl
end
end Go.SH
