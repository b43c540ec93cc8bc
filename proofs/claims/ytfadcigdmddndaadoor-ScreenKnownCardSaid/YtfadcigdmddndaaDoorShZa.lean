/- The run of the code, as the kernel runs it fast: operations. -/
import Derived.Test.YtfadcigdmddndaaDoorShZ
set_option linter.unusedVariables false
set_option linter.unusedSimpArgs false
namespace Go.SH

noncomputable def orV (r : Option PV) : OR := Option.rec .no (fun x => .v x) r
noncomputable def evC (G : List (Nat × List PV)) (x : Operand) : W (Al → Option PV) :=
  Operand.rec (fun t => ⟨fun al => lgF al t⟩) (fun v => ⟨fun _ => cpv v⟩) (fun g => ⟨fun _ => (lget G g).map (.rop · 0)⟩) (fun f => ⟨fun _ => some (.fn f [])⟩) x
/-- A pointer is taken apart. -/
noncomputable def onPtr {β : Type} (r : Option PV) (no : β) (kp : Nat → Nat → β) (kr : List PV → Nat → β) : β :=
  Option.rec no (fun x => PV.casesOn x no (fun _ _ => no) (fun _ => no) (fun _ => no) no kp kr no (fun _ _ _ => no) (fun _ _ _ _ _ => no) (fun _ _ => no) no (fun _ _ => no) no (fun _ => no) (fun _ => no)) r
noncomputable def onInt {β : Type} (r : Option PV) (no : β) (ki : IntKind → Int → β) : β :=
  Option.rec no (fun x => PV.casesOn x no ki (fun _ => no) (fun _ => no) no (fun _ _ => no) (fun _ _ => no) no (fun _ _ _ => no) (fun _ _ _ _ _ => no) (fun _ _ => no) no (fun _ _ => no) no (fun _ => no) (fun _ => no)) r
noncomputable def onBool {β : Type} (r : Option PV) (no : β) (kb : Bool → β) : β :=
  Option.rec no (fun x => PV.casesOn x no (fun _ _ => no) kb (fun _ => no) no (fun _ _ => no) (fun _ _ => no) no (fun _ _ _ => no) (fun _ _ _ _ _ => no) (fun _ _ => no) no (fun _ _ => no) no (fun _ => no) (fun _ => no)) r
/-- A slice, told by its cells or by its block. -/
noncomputable def onSl {β : Type} (r : Option PV) (no : β) (kn : β) (kr : List PV → Nat → β) (kw : Nat → Nat → Nat → β) : β :=
  Option.rec no (fun x => PV.casesOn x no (fun _ _ => no) (fun _ => no) (fun _ => no) no (fun _ _ => no) (fun _ _ => no) kn (fun c n _ => kr c n) (fun l o n _ _ => kw l o n) (fun _ _ => no) no (fun _ _ => no) no (fun _ => no) (fun _ => no)) r
noncomputable def cellsF (x : PV) : List PV := PV.casesOn x [x] (fun _ _ => [x]) (fun _ => [x]) (fun _ => [x]) [x] (fun _ _ => [x]) (fun _ _ => [x]) [x] (fun _ _ _ => [x]) (fun _ _ _ _ _ => [x]) (fun _ _ => [x]) [x] (fun _ _ => [x]) [x] (fun c => c) (fun _ => [x])

/-- What is told by xop2. -/
noncomputable def slowC (P : Program) (G : List (Nat × List PV)) (o : Oper) : W (Al → Tr → Nat → OR) := ⟨fun al m nx => OR.of (xop2 P G o al (rlOf G al m o.op) nx)⟩

noncomputable def i64W : W (Int → Int) := ⟨fun x => Int.rec (fun n => (Bool.rec (motive := fun _ => Int) (IntKind.i64.wrap (Int.ofNat n)) (Int.ofNat n) (Nat.blt n 9223372036854775808))) (fun n => (Bool.rec (motive := fun _ => Int) (IntKind.i64.wrap (Int.negSucc n)) (Int.negSucc n) (Nat.blt n 9223372036854775808))) x⟩
/-- Two numbers of a kind. -/
noncomputable def int2 (a b : Option PV) (nn : OR) (f : IntKind → Int → Int → OR) : OR := onInt a nn fun k x => onInt b nn fun k' y => (Bool.rec (motive := fun _ => OR) nn (f k x y) (Nat.beq (kix k) (kix k')))
noncomputable def wrapF (k : IntKind) (x : Int) : Int := (Bool.rec (motive := fun _ => Int) (k.wrap x) (i64W.run x) (Nat.beq (kix k) (kix .i64)))

noncomputable def loadC (P : Program) (T : TypeId) (e : W (Al → Option PV)) (slow : W (Al → Tr → Nat → OR)) : W (Al → Tr → Nat → OR) :=
  match P.info? T, rowOf P T, e with
  | some i, some true, ⟨e⟩ => ⟨fun al m nx => onPtr (e al) .no
      (fun l off => Option.rec .no (fun cells => (Bool.rec (motive := fun _ => OR) .no (.v (.agg (takeF (dropF cells off) i.size))) (geF cells (Nat.add off i.size) && Nat.blt 0 i.size))) (tgF m l))
      (fun cells off => (Bool.rec (motive := fun _ => OR) .no (.v (.agg (takeF (dropF cells off) i.size))) (geF cells (Nat.add off i.size) && Nat.blt 0 i.size)))⟩
  | some _, some false, ⟨e⟩ => ⟨fun al m nx => onPtr (e al) .no (fun l off => Option.rec .no (fun cells => orV (nthF cells off)) (tgF m l)) (fun cells off => orV (nthF cells off))⟩
  | _, _, _ => slow
noncomputable def storeC (P : Program) (T : TypeId) (d : Option Tmp) (ep ev : W (Al → Option PV)) (slow : W (Al → Tr → Nat → OR)) : W (Al → Tr → Nat → OR) :=
  match d, P.info? T, ep, ev with
  | none, some i, ⟨ep⟩, ⟨ev⟩ => ⟨fun al m nx => onPtr (ep al) .no
      (fun l off => Option.rec .no (fun cells => Option.rec .no (fun x => (Bool.rec (motive := fun _ => OR) .no (.w .dead [(l, some (spF cells off (cellsF x)))]) (Nat.beq (lenF (cellsF x)) i.size && ((cellsF x).all PV.one && (geF cells (Nat.add off i.size) && Nat.blt 0 i.size))))) (ev al)) (tgF m l))
      (fun _ _ => .no)⟩
  | _, _, _, _ => slow
noncomputable def offC (P : Program) (S : TypeId) (f : Nat) (e : W (Al → Option PV)) (slow : W (Al → Tr → Nat → OR)) : W (Al → Tr → Nat → OR) :=
  match xoff P S f, e with
  | some (k, _, _), ⟨e⟩ => ⟨fun al m nx => onPtr (e al) .no (fun l off => .v (.ptr l (Nat.add off k))) (fun cells off => .v (.rop cells (Nat.add off k)))⟩
  | _, _ => slow
noncomputable def nilC (e : W (Al → Option PV)) (slow : W (Al → Tr → Nat → OR)) : W (Al → Tr → Nat → OR) :=
  match e, slow with
  | ⟨e⟩, ⟨s⟩ => ⟨fun al m nx => onPtr (e al) (s al m nx) (fun l off => .v (.ptr l off)) (fun cells off => .v (.rop cells off))⟩
noncomputable def onNat {β : Type} (i : Int) (no : β) (k : Nat → β) : β := Int.rec k (fun _ => no) i
noncomputable def idxC (P : Program) (T : TypeId) (ex ei : W (Al → Option PV)) (slow : W (Al → Tr → Nat → OR)) : W (Al → Tr → Nat → OR) :=
  match P.underlying T, ex, ei with
  | some (.array n e), ⟨ex⟩, ⟨ei⟩ => match P.info? e with
    | some ie => ⟨fun al m nx => onInt (ei al) .no fun _ i => onNat i .no fun i => (Bool.rec (motive := fun _ => OR) .no (onPtr (ex al) .no (fun l off => .v (.ptr l (Nat.add off (Nat.mul i ie.size)))) (fun cells off => .v (.rop cells (Nat.add off (Nat.mul i ie.size))))) (Nat.blt i n))⟩
    | none => slow
  | some (.slice e), ⟨ex⟩, ⟨ei⟩ => match P.info? e with
    | some ie => ⟨fun al m nx => onInt (ei al) .no fun _ i => onNat i .no fun i => onSl (ex al) .no .no (fun cells n => (Bool.rec (motive := fun _ => OR) .no (.v (.rop cells (Nat.mul i ie.size))) (Nat.blt i n))) (fun l off n => (Bool.rec (motive := fun _ => OR) .no (.v (.ptr l (Nat.add off (Nat.mul i ie.size)))) (Nat.blt i n)))⟩
    | none => slow
  | _, _, _ => slow
noncomputable def binC (op : BinOp) (ex ey : W (Al → Option PV)) (slow : W (Al → Tr → Nat → OR)) : W (Al → Tr → Nat → OR) :=
  match ex, ey, slow with
  | ⟨ex⟩, ⟨ey⟩, ⟨s⟩ => match op with
    | .add => ⟨fun al m nx => int2 (ex al) (ey al) (s al m nx) fun k a b => .v (.int k (wrapF k (Int.add a b)))⟩
    | .sub => ⟨fun al m nx => int2 (ex al) (ey al) (s al m nx) fun k a b => .v (.int k (wrapF k (Int.sub a b)))⟩
    | .mul => ⟨fun al m nx => int2 (ex al) (ey al) (s al m nx) fun k a b => .v (.int k (wrapF k (Int.mul a b)))⟩
    | .eql => ⟨fun al m nx => int2 (ex al) (ey al) (s al m nx) fun k a b => .v (.bool (eqF a b))⟩
    | .neq => ⟨fun al m nx => int2 (ex al) (ey al) (s al m nx) fun k a b => .v (.bool ((Bool.rec (motive := fun _ => Bool) true false (eqF a b))))⟩
    | .lss => ⟨fun al m nx => int2 (ex al) (ey al) (s al m nx) fun k a b => .v (.bool (ltF a b))⟩
    | .gtr => ⟨fun al m nx => int2 (ex al) (ey al) (s al m nx) fun k a b => .v (.bool (ltF b a))⟩
    | .leq => ⟨fun al m nx => int2 (ex al) (ey al) (s al m nx) fun k a b => .v (.bool ((Bool.rec (motive := fun _ => Bool) true false (ltF b a))))⟩
    | .geq => ⟨fun al m nx => int2 (ex al) (ey al) (s al m nx) fun k a b => .v (.bool ((Bool.rec (motive := fun _ => Bool) true false (ltF a b))))⟩
    | _ => ⟨s⟩
noncomputable def pickC (ec ea eb : W (Al → Option PV)) : W (Al → Tr → Nat → OR) :=
  match ec, ea, eb with
  | ⟨ec⟩, ⟨ea⟩, ⟨eb⟩ => ⟨fun al m nx => onBool (ec al) .no fun c => orV ((Bool.rec (motive := fun _ => Option PV) (eb al) (ea al) c))⟩
noncomputable def lenC (P : Program) (t : TypeId) (e : W (Al → Option PV)) (slow : W (Al → Tr → Nat → OR)) : W (Al → Tr → Nat → OR) :=
  match P.underlying t, e with
  | some (.slice _), ⟨e⟩ => ⟨fun al m nx => onSl (e al) .no (.v (.int .i64 (Int.ofNat 0))) (fun _ n => .v (.int .i64 (Int.ofNat n))) (fun _ _ n => .v (.int .i64 (Int.ofNat n)))⟩
  | _, _ => slow

noncomputable def newC (z : Option (List PV)) (slow : W (Al → Tr → Nat → OR)) : W (Al → Tr → Nat → OR) :=
  match z with
  | some z => ⟨fun al m nx => .w (.ptr nx 0) [(nx, some z)]⟩
  | none => slow
noncomputable def boxC (e : W (Al → Option PV)) : W (Al → Tr → Nat → OR) :=
  match e with
  | ⟨e⟩ => ⟨fun al m nx => Option.rec .no (fun x => (Bool.rec (motive := fun _ => OR) .no (.w (.ptr nx 0) [(nx, some (cellsF x))]) ((cellsF x).all PV.one))) (e al)⟩
noncomputable def onTup {β : Type} (r : Option PV) (no : β) (kt : List PV → β) : β :=
  Option.rec no (fun x => PV.casesOn x no (fun _ _ => no) (fun _ => no) (fun _ => no) no (fun _ _ => no) (fun _ _ => no) no (fun _ _ _ => no) (fun _ _ _ _ _ => no) (fun _ _ => no) no (fun _ _ => no) no (fun _ => no) kt) r
noncomputable def extC (i : Nat) (e : W (Al → Option PV)) : W (Al → Tr → Nat → OR) :=
  match e with
  | ⟨e⟩ => ⟨fun al m nx => onTup (e al) .no fun vs => orV (nthF vs i)⟩
noncomputable def notC (op : UnOp) (e : W (Al → Option PV)) (slow : W (Al → Tr → Nat → OR)) : W (Al → Tr → Nat → OR) :=
  match op, e with
  | .not, ⟨e⟩ => ⟨fun al m nx => onBool (e al) .no fun b => .v (.bool (Bool.rec (motive := fun _ => Bool) true false b))⟩
  | _, _ => slow
noncomputable def convC (P : Program) (s t : TypeId) (e : W (Al → Option PV)) (slow : W (Al → Tr → Nat → OR)) : W (Al → Tr → Nat → OR) :=
  match P.underlying s, P.underlying t, e, slow with
  | some (.int _), some (.int k), ⟨e⟩, ⟨sl⟩ => ⟨fun al m nx => onInt (e al) (sl al m nx) fun _ n => .v (.int k (wrapF k n))⟩
  | _, _, _, slow => slow

noncomputable def opC (P : Program) (G : List (Nat × List PV)) (o : Oper) : W (Al → Tr → Nat → OR) :=
  match o.op with
  | .move x => match evC G x with | ⟨e⟩ => ⟨fun al m nx => orV (e al)⟩
  | .assign x => match evC G x with | ⟨e⟩ => ⟨fun al m nx => orV (e al)⟩
  | .load T p => loadC P T (evC G p) (slowC P G o)
  | .store T p v => storeC P T o.dst (evC G p) (evC G v) (slowC P G o)
  | .fieldAddr S x f => offC P S f (evC G x) (slowC P G o)
  | .nilCheck x => nilC (evC G x) (slowC P G o)
  | .indexAddr T x i => idxC P T (evC G x) (evC G i) (slowC P G o)
  | .binOp op _ x y _ => binC op (evC G x) (evC G y) (slowC P G o)
  | .pick c a b => pickC (evC G c) (evC G a) (evC G b)
  | .call ⟨.builtin .len, ⟨[x]⟩, ⟨[t]⟩⟩ => lenC P t (evC G x) (slowC P G o)
  | .alloc T => newC (zcells P T) (slowC P G o)
  | .box _ x => boxC (evC G x)
  | .extract x i => extC i (evC G x)
  | .unOp op _ x => notC op (evC G x) (slowC P G o)
  | .convert s t x => convC P s t (evC G x) (slowC P G o)
  | _ => slowC P G o

/-! statements -/
abbrev IH := Task → Option Outc
noncomputable def onSt (r : Option Outc) (k : Exit → Al → Tr → Nat → Option Outc) : Option Outc := Option.rec none (fun o => Outc.rec k (fun _ _ _ => none) o) r
noncomputable def onRet (r : Option Outc) (no : Option Outc) (k : PV → Tr → Nat → Option Outc) : Option Outc := Option.rec no (fun o => Outc.rec (fun _ _ _ _ => no) k o) r
noncomputable def onNormal (e : Exit) (no : Option Outc) (k : Option Outc) : Option Outc := Exit.rec k (fun _ => no) (fun _ => no) no (fun _ => no) no e
noncomputable def raF (al : Al) (ts : List Nat) : Al := List.rec [] (fun t _ ih => Option.rec ih (fun x => (t, x) :: ih) (lgF al t)) ts
noncomputable def keysF (al : Al) : List Nat := List.rec [] (fun p _ ih => p.1 :: ih) al
/-- The list is told out. -/
noncomputable def forceF (al : Al) (k : Option Outc) : Option Outc := List.rec k (fun _ _ ih => ih) al

noncomputable def codeC (P : Program) (G : List (Nat × List PV)) (c : Code) : W (IH → Nat → Al → Tr → Nat → Nat → Option Outc) :=
  match c with
  | .skip => ⟨fun ih n al m nx lo => some (.st .normal al m nx)⟩
  | .seq x y => ⟨fun ih n al m nx lo => onSt (ih (.code n x al m nx lo)) fun e al' m' nx' => onNormal e (some (.st e al' m' nx')) (ih (.code n y al' m' nx' lo))⟩
  | .cond (.tmp t) x y => ⟨fun ih n al m nx lo => onBool (lgF al t) none fun b => (Bool.rec (motive := fun _ => Option Outc) (ih (.code n y al m nx lo)) (ih (.code n x al m nx lo)) b)⟩
  | .cond (.const (.bool b)) x y => (Bool.rec (motive := fun _ => W (IH → Nat → Al → Tr → Nat → Nat → Option Outc)) ⟨fun ih n al m nx lo => ih (.code n y al m nx lo)⟩ ⟨fun ih n al m nx lo => ih (.code n x al m nx lo)⟩ b)
  | .block i c => ⟨fun ih n al m nx lo => onSt (ih (.code n c al m nx lo)) fun e al' m' nx' => Exit.rec (some (.st e al' m' nx')) (fun j => (Bool.rec (motive := fun _ => Option Outc) (some (.st (.exit j) al' m' nx')) (some (.st .normal al' m' nx')) (Nat.beq j i))) (fun _ => some (.st e al' m' nx')) (some (.st e al' m' nx')) (fun _ => some (.st e al' m' nx')) (some (.st e al' m' nx')) e⟩
  | .loop c => ⟨fun ih n al m nx lo => onSt (ih (.code n c al m nx lo)) fun e al' m' nx' => onNormal e (some (.st e al' m' nx')) (forceF (raF al' (keysF al)) (ih (.code n (.loop c) (raF al' (keysF al)) m' nx' lo)))⟩
  | .exit i => ⟨fun ih n al m nx lo => some (.st (.exit i) al m nx)⟩
  | .ret => ⟨fun ih n al m nx lo => some (.st .ret al m nx)⟩
  | .label _ => ⟨fun ih n al m nx lo => some (.st .normal al m nx)⟩
  | .region _ ops false => ⟨fun ih n al m nx lo => ih (.ops n ops ops.toList al m nx lo)⟩
  | .region _ ops true => ⟨fun ih n al m nx lo => ih (.draw n ops ops.toList [] al m nx lo)⟩
  | _ => ⟨fun ih n al m nx lo => none⟩

noncomputable def setC (d : Option Tmp) : W (PV → Al → Al) := match d with | some t => ⟨fun x al => (t, x) :: al⟩ | none => ⟨fun x al => al⟩
/-- The guard: run it, or not. -/
noncomputable def guardC (ops : Array Oper) (o : Oper) : W (Al → Option Outc → Option Outc → Option Outc) :=
  match o.guard with
  | none => ⟨fun al run no => run⟩
  | some (j, want) => match (ops[j]?).bind (·.dst) with
    | some d => ⟨fun al run no => Option.rec none (fun x => PV.casesOn x no (fun _ _ => none) (fun b => (Bool.rec (motive := fun _ => Option Outc) no run (b == want))) (fun _ => none) none (fun _ _ => none) (fun _ _ => none) none (fun _ _ _ => none) (fun _ _ _ _ _ => none) (fun _ _ => none) none (fun _ _ => none) none (fun _ => none) (fun _ => none)) (lgF al d)⟩
    | none => ⟨fun al run no => none⟩
noncomputable def evsC (G : List (Nat × List PV)) (xs : List Operand) : W (Al → Option (List PV)) :=
  List.rec ⟨fun al => some []⟩ (fun x _ ih => match evC G x, ih with | ⟨e⟩, ⟨es⟩ => ⟨fun al => Option.rec none (fun v => Option.rec none (fun vs => some (v :: vs)) (es al)) (e al)⟩) xs
noncomputable def onFn (r : Option PV) (no : Option Outc) (k : FuncId → List PV → Option Outc) : Option Outc :=
  Option.rec no (fun x => PV.casesOn x no (fun _ _ => no) (fun _ => no) (fun _ => no) no (fun _ _ => no) (fun _ _ => no) no (fun _ _ _ => no) (fun _ _ _ _ _ => no) k no (fun _ _ => no) no (fun _ => no) (fun _ => no)) r
noncomputable def isCall (o : Op) : Option (Operand × List Operand) := match o with
  | .call ⟨.value fo, args, _⟩ => some (fo, args.toList)
  | _ => none
noncomputable def nxF (nx : Nat) (wl : Lb) : Nat := List.rec nx (fun _ _ _ => Nat.succ nx) wl

noncomputable def opsC (P : Program) (G : List (Nat × List PV)) (n : Nat) (ops : Array Oper) (o : Oper) : W (IH → List Oper → Al → Tr → Nat → Nat → Option Outc) :=
  match dstOK n o.dst, guardC ops o, setC o.dst, isCall o.op, opC P G o with
  | true, ⟨g⟩, ⟨st⟩, some (fo, args), _ => match evC G fo, evsC G args with
    | ⟨ef⟩, ⟨es⟩ => ⟨fun ih rest al m nx lo => g al
        (onFn (ef al) none fun f caps => Option.rec none (fun xs => onRet (ih (.fn f (appF xs caps) m nx lo)) none fun v m' nx' => ih (.ops n ops rest (st v al) m' nx' lo)) (es al))
        (ih (.ops n ops rest (st .dead al) m nx lo))⟩
  | true, ⟨g⟩, ⟨st⟩, none, ⟨r⟩ => ⟨fun ih rest al m nx lo => g al
      (OR.rec none (fun x => ih (.ops n ops rest (st x al) m nx lo)) (fun x wl => (Bool.rec (motive := fun _ => Option Outc) none (ih (.ops n ops rest (st x al) (tuF wl m) (nxF nx wl) lo)) (wlOK (rlOf G al m o.op) nx lo wl))) (r al m nx))
      (ih (.ops n ops rest (st .dead al) m nx lo))⟩
  | false, _, _, _, _ => ⟨fun ih rest al m nx lo => none⟩

noncomputable def drawC (P : Program) (G : List (Nat × List PV)) (n : Nat) (ops : Array Oper) (o : Oper) : W (IH → List Oper → List Fp → Al → Tr → Nat → Nat → Option Outc) :=
  match guardC ops o, setC o.dst, isCall o.op, slotsOf (opnds o.op) with
  | ⟨g⟩, ⟨st⟩, some (fo, args), sl => match evC G fo, evsC G args with
    | ⟨ef⟩, ⟨es⟩ => ⟨fun ih rest fs al m nx lo => g al
        (onFn (ef al) none fun f caps => Option.rec none (fun xs => Option.rec none (fun rl =>
            onRet (ih (.fn f (appF xs caps) (tree rl) nx nx))
              (onRet (ih (.fn f (appF xs caps) (tree rl) nx lo)) none fun v m' nx' => Option.rec none (fun rl' => ih (.draw n ops rest (⟨raF al sl, rl, v, rl', true, false⟩ :: fs) (st v al) (tuF rl' m) nx' lo)) (reach m' 100000 (labs v ++ keysL rl) []))
              fun v m' nx' => Option.rec none (fun rl' => ih (.draw n ops rest (⟨raF al sl, rl, v, fresh nx rl', true, false⟩ :: fs) (st v al) (tuF (fresh nx rl') m) nx' lo)) (reach m' 100000 (labs v ++ keysL rl) []))
          (reach m 100000 (labsL (appF xs caps)) [])) (es al))
        (ih (.draw n ops rest (⟨[], [], .dead, [], false, gdOf ops al o⟩ :: fs) (st .dead al) m nx lo))⟩
  | ⟨g⟩, ⟨st⟩, none, sl => match opC P G o with
    | ⟨r⟩ => ⟨fun ih rest fs al m nx lo => g al
      (OR.rec none (fun x => ih (.draw n ops rest (⟨raF al sl, rlOf G (raF al sl) m o.op, x, [], true, false⟩ :: fs) (st x al) m nx lo))
        (fun x wl => (Bool.rec (motive := fun _ => Option Outc) none (ih (.draw n ops rest (⟨raF al sl, rlOf G (raF al sl) m o.op, x, wl, true, false⟩ :: fs) (st x al) (tuF wl m) (nxF nx wl) lo)) (wlOK (rlOf G (raF al sl) m o.op) nx lo wl))) (r (raF al sl) m nx))
      (ih (.draw n ops rest (⟨[], [], .dead, [], false, gdOf ops al o⟩ :: fs) (st .dead al) m nx lo))⟩

noncomputable def fnC (P : Program) (G : List (Nat × List PV)) (f : FuncId) : W (IH → List PV → Tr → Nat → Nat → Option Outc) :=
  match P.funcs[f]? with
  | some fn => match fn.body with
    | some c => ⟨fun ih args m nx lo => (Bool.rec (motive := fun _ => Option Outc) none (onSt (ih (.code fn.ntmps c (entry args 0) m nx lo)) fun e al' m' nx' => (Bool.rec (motive := fun _ => Option Outc) none (Option.rec none (fun xs => some (.ret (rtup xs) m' nx')) (xresT P al' m' fn.results.toList)) (isEnd e))) (Nat.ble (lenF args) fn.ntmps))⟩
    | none => ⟨fun ih args m nx lo => none⟩
  | none => ⟨fun ih args m nx lo => none⟩

def staticF (n : Nat) (ops : Array Oper) : Bool := edgesOK ops && (indepS ops && drawS n ops)
noncomputable def pureF (fs : List Fp) : Bool := List.rec true (fun f _ ih => List.rec ih (fun _ _ _ => false) f.wl) fs
noncomputable def Ystep (P : Program) (G : List (Nat × List PV)) (ih : IH) (t : Task) : Option Outc :=
  Task.rec (fun n c al m nx lo => (codeC P G c).run ih n al m nx lo)
    (fun n ops rest al m nx lo => List.rec (some (.st .normal al m nx)) (fun o rest _ => (opsC P G n ops o).run ih rest al m nx lo) rest)
    (fun n ops rest fs al m nx lo => List.rec ((Bool.rec (motive := fun _ => Option Outc) none ((Bool.rec (motive := fun _ => Option Outc) ((Bool.rec (motive := fun _ => Option Outc) none (some (.st .normal al m nx)) (nodupAll fs && indepD ops fs.reverse))) (some (.st .normal al m nx)) (pureF fs))) (staticF n ops))) (fun o rest _ => (drawC P G n ops o).run ih rest fs al m nx lo) rest)
    (fun f args m nx lo => (fnC P G f).run ih args m nx lo) t
noncomputable def Y (P : Program) (G : List (Nat × List PV)) (k : Nat) : Task → Option Outc := Nat.rec (fun _ => none) (fun _ ih => Ystep P G ih) k
end Go.SH
