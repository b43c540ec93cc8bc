/- A run of the code on symbolic values as a function: the run. -/
import Derived.Test.YtfadcigdmddndaaDoorShX
import Derived.Test.YtfadcigdmddndaaDoorShN
set_option linter.unusedVariables false
set_option linter.unusedSimpArgs false
namespace Go.SH

inductive Task where
  | code (n : Nat) (c : Code) (al : Al) (m : Tr) (nx lo : Nat)
  | ops (n : Nat) (ops : Array Oper) (rest : List Oper) (al : Al) (m : Tr) (nx lo : Nat)
  | draw (n : Nat) (ops : Array Oper) (rest : List Oper) (fs : List Fp) (al : Al) (m : Tr) (nx lo : Nat)
  | fn (f : FuncId) (args : List PV) (m : Tr) (nx lo : Nat)
inductive Outc where
  | st (e : Exit) (al : Al) (m : Tr) (nx : Nat)
  | ret (v : PV) (m : Tr) (nx : Nat)

def of1 (G : List (Nat × List PV)) (al : Al) (m : Tr) (x : Operand) : Lb :=
  match xev G al x with
  | some (.ptr l _) => match tget m l with | some cs => [(l, some cs)] | none => []
  | some (.rw l _ _ _ _) => match tget m l with | some cs => [(l, some cs)] | none => []
  | _ => []
def rlOf (G : List (Nat × List PV)) (al : Al) (m : Tr) (o : Op) : Lb :=
  match o with
  | .load _ p => of1 G al m p
  | .store _ p _ => of1 G al m p
  | .slice _ x _ _ _ => of1 G al m x
  | .convert _ _ x => of1 G al m x
  | .call ⟨.builtin .append, ⟨[x, y]⟩, _⟩ => of1 G al m x ++ of1 G al m y
  | .call ⟨.builtin .copy, ⟨[x, y]⟩, _⟩ => of1 G al m x ++ of1 G al m y
  | _ => []
/-- What is written: a new block, or one that was looked at and may be written. -/
def wlOK (rl : Lb) (nx lo : Nat) (wl : Lb) : Bool := wl.all fun p => Nat.blt nx maxL && (p.1.beq nx || (hasL rl p.1 && Nat.ble lo p.1))

def xresT (P : Program) (al : Al) (m : Tr) : List ResultVar → Option (List PV)
  | [] => some []
  | .tmp t :: r => match lget al t, xresT P al m r with
    | some x, some xs => some (x :: xs)
    | _, _ => none
  | .cell s T :: r => match lget al s, xresT P al m r with
    | some (.ptr l off), some xs => match tget m l with
      | some cs => match xload P T [(l, some cs)] (.ptr l off) with
        | some x => some (x :: xs)
        | none => none
      | none => none
    | _, _ => none

/-! The labels that a value names. -/
mutual
def labs : PV → List Nat
  | .ptr l _ => [l]
  | .rw l _ _ _ _ => [l]
  | .rop cells _ => labsL cells
  | .ro cells _ _ => labsL cells
  | .fn _ caps => labsL caps
  | .iface _ v => labs v
  | .agg cells => labsL cells
  | .tup vs => labsL vs
  | _ => []
def labsL : List PV → List Nat
  | [] => []
  | x :: xs => labs x ++ labsL xs
end

/-- What can be reached from labels. -/
def reach (m : Tr) : Nat → List Nat → Lb → Option Lb
  | 0, _, _ => none
  | _ + 1, [], acc => some acc
  | f + 1, l :: r, acc => bif hasL acc l then reach m f r acc else match tget m l with
    | some cs => reach m f (labsL cs ++ r) ((l, some cs) :: acc)
    | none => none

def slotsOf : List Operand → List Nat
  | [] => []
  | .tmp t :: r => t :: slotsOf r
  | _ :: r => slotsOf r
def opnds : Op → List Operand
  | .move x => [x]
  | .assign x => [x]
  | .pick c a b => [c, a, b]
  | .binOp _ _ x y _ => [x, y]
  | .unOp _ _ x => [x]
  | .convert _ _ x => [x]
  | .load _ p => [p]
  | .store _ p v => [p, v]
  | .box _ x => [x]
  | .build _ ps => ps.toList.map (·.2)
  | .buildSlice _ _ ps => ps.toList.map (·.2)
  | .fieldAddr _ x _ => [x]
  | .field _ x _ => [x]
  | .extract x _ => [x]
  | .makeFunc _ first caps => first.toList ++ caps.toList
  | .makeInterface _ x => [x]
  | .nilCheck x => [x]
  | .indexAddr _ x i => [x, i]
  | .index _ x i => [x, i]
  | .slice _ x lo hi _ => x :: (lo.toList ++ hi.toList)
  | .makeSlice _ x y => [x, y]
  | .call ⟨.value f, args, _⟩ => f :: args.toList
  | .call ⟨_, args, _⟩ => args.toList
  | _ => []
def raOf (al : Al) : List Nat → Al
  | [] => []
  | t :: r => match lget al t with | some x => (t, x) :: raOf al r | none => raOf al r

def gdOf (ops : Array Oper) (al : Al) (o : Oper) : Bool := match o.guard with
  | some (j, _) => match (ops[j]?).bind (·.dst) with
    | some d => match lget al d with | some .dead => true | _ => false
    | none => false
  | none => false

/-! which operations come ahead of which -/
def maskOf (acc : List Nat) : List Nat → Nat
  | [] => 0
  | k :: r => Nat.lor (Nat.lor (Nat.shiftLeft 1 k) (acc.getD k 0)) (maskOf acc r)
def masks : List Oper → List Nat → List Nat
  | [], acc => acc
  | o :: r, acc => masks r (acc ++ [maskOf acc (edgesOf o)])
def bitB (m i : Nat) : Bool := Nat.beq (Nat.mod (Nat.shiftRight m i) 2) 1
def hasN (l : List Nat) (x : Nat) : Bool := l.any fun y => Nat.beq y x
def meetN (a b : List Nat) : Bool := a.any (hasN b)

def rdS (ops : Array Oper) (o : Oper) : List Nat := (match gslot ops o with | some d => [d] | none => []) ++ slotsOf (opnds o.op)
def wrS (o : Oper) : List Nat := match o.dst with | some d => [d] | none => []
def pairsS (mk : List Nat) (j : Nat) (rj wj : List Nat) : List (List Nat × List Nat) → Nat → Bool
  | [], _ => true
  | (ri, wi) :: r, i => (bitB (mk.getD j 0) i || !(meetN wi (rj ++ wj) || meetN wj ri)) && pairsS mk j rj wj r (i + 1)
def allS (mk : List Nat) : List (List Nat × List Nat) → List (List Nat × List Nat) → Nat → Bool
  | _, [], _ => true
  | pre, (rj, wj) :: r, j => pairsS mk j rj wj pre 0 && allS mk (pre ++ [(rj, wj)]) r (j + 1)
/-- No slot is written and looked at by operations of open order. -/
def indepS (ops : Array Oper) : Bool := allS (masks ops.toList []) [] (ops.toList.map fun o => (rdS ops o, wrS o)) 0
def rdL (f : Fp) : List Nat := if f.run then f.rl.map (·.1) ++ fnew f else []
def wrL (f : Fp) : List Nat := if f.run then f.wl.map (·.1) else []
/-- Nor a block. -/
def indepD (ops : Array Oper) (fs : List Fp) : Bool := allS (masks ops.toList []) [] (fs.map fun f => (rdL f, wrL f)) 0

/-- Every operation of a statement of open order has its place and its guard. -/
def drawS (n : Nat) (ops : Array Oper) : Bool := ops.toList.all fun o => dstOK n o.dst && (match o.guard with | some _ => (gslot ops o).isSome | none => true)
def pureL (fs : List Fp) : Bool := fs.all fun f => match f.wl with | [] => true | _ => false
def nodupAll (fs : List Fp) : Bool := fs.all fun f => nodupK f.wl

def isEnd : Exit → Bool
  | .normal => true
  | .ret => true
  | _ => false

def nxt (nx : Nat) : Lb → Nat
  | [] => nx
  | _ => nx + 1
/-- The blocks that were not there, or not so. -/
def fresh (nx : Nat) (rl : Lb) : Lb := rl.filter fun p => Nat.ble nx p.1
def tree (rl : Lb) : Tr := tupd .nil rl
def keysL (rl : Lb) : List Nat := rl.map (·.1)

def Xstep (P : Program) (G : List (Nat × List PV)) (ih : Task → Option Outc) : Task → Option Outc
  | .code n c al m nx lo => match c with
    | .skip => some (.st .normal al m nx)
    | .seq x y => match ih (.code n x al m nx lo) with
      | some (.st e al' m' nx') => match e with
        | .normal => ih (.code n y al' m' nx' lo)
        | e => some (.st e al' m' nx')
      | _ => none
    | .cond (.tmp t) x y => match lget al t with
      | some (.bool b) => bif b then ih (.code n x al m nx lo) else ih (.code n y al m nx lo)
      | _ => none
    | .cond (.const (.bool b)) x y => bif b then ih (.code n x al m nx lo) else ih (.code n y al m nx lo)
    | .block i c => match ih (.code n c al m nx lo) with
      | some (.st e al' m' nx') => match e with
        | .exit j => bif j.beq i then some (.st .normal al' m' nx') else some (.st (.exit j) al' m' nx')
        | e => some (.st e al' m' nx')
      | _ => none
    | .loop c => match ih (.code n c al m nx lo) with
      | some (.st e al' m' nx') => match e with
        | .normal => ih (.code n (.loop c) (raOf al' (al.map (·.1))) m' nx' lo)
        | e => some (.st e al' m' nx')
      | _ => none
    | .exit i => some (.st (.exit i) al m nx)
    | .ret => some (.st .ret al m nx)
    | .label _ => some (.st .normal al m nx)
    | .region _ ops false => ih (.ops n ops ops.toList al m nx lo)
    | .region _ ops true => ih (.draw n ops ops.toList [] al m nx lo)
    | _ => none
  | .ops n ops rest al m nx lo => match rest with
    | [] => some (.st .normal al m nx)
    | o :: rest => match wants ops al o with
      | some true => match o.op with
        | .call ⟨.value fo, args, _⟩ => match xev G al fo, xevs G al args.toList with
          | some (.fn f caps), some xs => match ih (.fn f (xs ++ caps) m nx lo) with
            | some (.ret v m' nx') => bif dstOK n o.dst then ih (.ops n ops rest (oset o.dst v al) m' nx' lo) else none
            | _ => none
          | _, _ => none
        | op => match xop2 P G o al (rlOf G al m op) nx with
          | some (x, wl) => bif dstOK n o.dst && wlOK (rlOf G al m op) nx lo wl then ih (.ops n ops rest (oset o.dst x al) (tupd m wl) (nxt nx wl) lo) else none
          | none => none
      | some false => bif dstOK n o.dst then ih (.ops n ops rest (oset o.dst .dead al) m nx lo) else none
      | none => none
  | .draw n ops rest fs al m nx lo => match rest with
    | [] => bif edgesOK ops && (indepS ops && drawS n ops) then (bif pureL fs || (nodupAll fs && indepD ops fs.reverse) then some (.st .normal al m nx) else none) else none
    | o :: rest => match wants ops al o with
      | some true => match o.op with
        | .call ⟨.value fo, args, _⟩ => match xev G al fo, xevs G al args.toList with
          | some (.fn f caps), some xs => match reach m 100000 (labsL (xs ++ caps)) [] with
            | some rl => match ih (.fn f (xs ++ caps) (tree rl) nx nx) with
              | some (.ret v m' nx') => match reach m' 100000 (labs v ++ keysL rl) [] with
                | some rl' => ih (.draw n ops rest (⟨raOf al (slotsOf (opnds o.op)), rl, v, fresh nx rl', true, false⟩ :: fs) (oset o.dst v al) (tupd m (fresh nx rl')) nx' lo)
                | none => none
              | _ => match ih (.fn f (xs ++ caps) (tree rl) nx lo) with
                | some (.ret v m' nx') => match reach m' 100000 (labs v ++ keysL rl) [] with
                  | some rl' => ih (.draw n ops rest (⟨raOf al (slotsOf (opnds o.op)), rl, v, rl', true, false⟩ :: fs) (oset o.dst v al) (tupd m rl') nx' lo)
                  | none => none
                | _ => none
            | none => none
          | _, _ => none
        | op => match xop2 P G o (raOf al (slotsOf (opnds op))) (rlOf G (raOf al (slotsOf (opnds op))) m op) nx with
          | some (x, wl) => bif wlOK (rlOf G (raOf al (slotsOf (opnds op))) m op) nx lo wl then
              ih (.draw n ops rest (⟨raOf al (slotsOf (opnds op)), rlOf G (raOf al (slotsOf (opnds op))) m op, x, wl, true, false⟩ :: fs) (oset o.dst x al) (tupd m wl) (nxt nx wl) lo) else none
          | none => none
      | some false => ih (.draw n ops rest (⟨[], [], .dead, [], false, gdOf ops al o⟩ :: fs) (oset o.dst .dead al) m nx lo)
      | none => none
  | .fn f args m nx lo => match P.funcs[f]? with
    | some fn => match fn.body with
      | some c => bif Nat.ble args.length fn.ntmps then (match ih (.code fn.ntmps c (entry args 0) m nx lo) with
        | some (.st e al' m' nx') => bif isEnd e then (match xresT P al' m' fn.results.toList with
          | some xs => some (.ret (rtup xs) m' nx')
          | none => none) else none
        | _ => none) else none
      | none => none
    | none => none

def X (P : Program) (G : List (Nat × List PV)) : Nat → Task → Option Outc
  | 0 => fun _ => none
  | k + 1 => Xstep P G (X P G k)
end Go.SH
