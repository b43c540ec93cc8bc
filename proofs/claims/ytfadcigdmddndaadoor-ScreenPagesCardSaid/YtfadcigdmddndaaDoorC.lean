/- Part 3 of: ScreenPages: the first page is as it was, cursor and pen too, when the other one was shown and is no longer, whatever was done there but for resizing and beginning anew; of at most 20 rows and columns, at most 60 changes on either page. -/
import Derived.Test.YtfadcigdmddndaaDoorB
set_option linter.unusedVariables false
set_option linter.unusedSimpArgs false
namespace Go.SH
inductive Task where
  | code (n:Nat) (c:Code) (al:Al) (m:Tr) (nx lo:Nat)
  | ops (n:Nat) (ops:Array Oper) (rest:List Oper) (al:Al) (m:Tr) (nx lo:Nat)
  | draw (n:Nat) (ops:Array Oper) (rest:List Oper) (fs:List Fp) (al:Al) (m:Tr) (nx lo:Nat)
  | fn (f:FuncId) (args:List PV) (m:Tr) (nx lo:Nat)
inductive Outc where
  | st (e:Exit) (al:Al) (m:Tr) (nx:Nat)
  | ret (v:PV) (m:Tr) (nx:Nat)
def of1 (G:List (Nat × List PV)) (al:Al) (m:Tr) (x:Operand):Lb:=
  match xev G al x with
  | some (.ptr l _)=>match tget m l with | some cs=>[(l,some cs)] | none=>[]
  | some (.rw l _ _ _ _)=>match tget m l with | some cs=>[(l,some cs)] | none=>[]
  | _=>[]
def rlOf (G:List (Nat × List PV)) (al:Al) (m:Tr) (o:Op):Lb:=
  match o with
  | .load _ p=>of1 G al m p
  | .store _ p _=>of1 G al m p
  | .slice _ x _ _ _=>of1 G al m x
  | .convert _ _ x=>of1 G al m x
  | .call ⟨.builtin .append,⟨[x,y]⟩,_⟩=>of1 G al m x ++ of1 G al m y
  | .call ⟨.builtin .copy,⟨[x,y]⟩,_⟩=>of1 G al m x ++ of1 G al m y
  | _=>[]
/-- What is written: a new block, or one that was looked at and may be written. -/
def wlOK (rl:Lb) (nx lo:Nat) (wl:Lb):Bool:=wl.all fun p=>Nat.blt nx maxL && (p.1.beq nx || (hasL rl p.1 && Nat.ble lo p.1))
def xresT (P:Program) (al:Al) (m:Tr):List ResultVar → Option (List PV)
  | []=>some []
  | .tmp t :: r=>match lget al t,xresT P al m r with
    | some x,some xs=>some (x :: xs)
    | _,_=>none
  | .cell s T :: r=>match lget al s,xresT P al m r with
    | some (.ptr l off),some xs=>match tget m l with
      | some cs=>match xload P T [(l,some cs)] (.ptr l off) with
        | some x=>some (x :: xs)
        | none=>none
      | none=>none
    | _,_=>none
mutual
def labs:PV → List Nat
  | .ptr l _=>[l]
  | .rw l _ _ _ _=>[l]
  | .rop cells _=>labsL cells
  | .ro cells _ _=>labsL cells
  | .fn _ caps=>labsL caps
  | .iface _ v=>labs v
  | .agg cells=>labsL cells
  | .tup vs=>labsL vs
  | .yld _ _ _ _ _ vs=>ylab :: labsL vs
  | .fs _ cells _ _=>flab :: labsL cells
  | _=>[]
def labsL:List PV → List Nat
  | []=>[]
  | x :: xs=>labs x ++ labsL xs
end
/-- What can be reached from labels. -/
def reach (m:Tr):Nat → List Nat → Lb → Option Lb
  | 0,_,_=>none
  | _ + 1,[],acc=>some acc
  | f + 1,l :: r,acc=>bif hasL acc l then reach m f r acc else match tget m l with
    | some cs=>reach m f (labsL cs ++ r) ((l,some cs) :: acc)
    | none=>none
def slotsOf:List Operand → List Nat
  | []=>[]
  | .tmp t :: r=>t :: slotsOf r
  | _ :: r=>slotsOf r
def opnds:Op → List Operand
  | .move x=>[x]
  | .assign x=>[x]
  | .pick c a b=>[c,a,b]
  | .binOp _ _ x y _=>[x,y]
  | .unOp _ _ x=>[x]
  | .convert _ _ x=>[x]
  | .load _ p=>[p]
  | .store _ p v=>[p,v]
  | .box _ x=>[x]
  | .build _ ps=>ps.toList.map (·.2)
  | .buildSlice _ _ ps=>ps.toList.map (·.2)
  | .fieldAddr _ x _=>[x]
  | .field _ x _=>[x]
  | .extract x _=>[x]
  | .makeFunc _ first caps=>first.toList ++ caps.toList
  | .makeInterface _ x=>[x]
  | .nilCheck x=>[x]
  | .indexAddr _ x i=>[x,i]
  | .index _ x i=>[x,i]
  | .slice _ x lo hi _=>x :: (lo.toList ++ hi.toList)
  | .makeSlice _ x y=>[x,y]
  | .call ⟨.value f,args,_⟩=>f :: args.toList
  | .call ⟨_,args,_⟩=>args.toList
  | _=>[]
def raOf (al:Al):List Nat → Al
  | []=>[]
  | t :: r=>match lget al t with | some x=>(t,x) :: raOf al r | none=>raOf al r
def gdOf (ops:Array Oper) (al:Al) (o:Oper):Bool:=match o.guard with
  | some (j,_)=>match (ops[j]?).bind (·.dst) with
    | some d=>match lget al d with | some .dead=>true | _=>false
    | none=>false
  | none=>false
def maskOf (acc:List Nat):List Nat → Nat
  | []=>0
  | k :: r=>Nat.lor (Nat.lor (Nat.shiftLeft 1 k) (acc.getD k 0)) (maskOf acc r)
def masks:List Oper → List Nat → List Nat
  | [],acc=>acc
  | o :: r,acc=>masks r (acc ++ [maskOf acc (edgesOf o)])
def bitB (m i:Nat):Bool:=Nat.beq (Nat.mod (Nat.shiftRight m i) 2) 1
def hasN (l:List Nat) (x:Nat):Bool:=l.any fun y=>Nat.beq y x
def meetN (a b:List Nat):Bool:=a.any (hasN b)
def rdS (ops:Array Oper) (o:Oper):List Nat:=(match gslot ops o with | some d=>[d] | none=>[]) ++ slotsOf (opnds o.op)
def wrS (o:Oper):List Nat:=match o.dst with | some d=>[d] | none=>[]
def pairsS (mk:List Nat) (j:Nat) (rj wj:List Nat):List (List Nat × List Nat) → Nat → Bool
  | [],_=>true
  | (ri,wi) :: r,i=>(bitB (mk.getD j 0) i || !(meetN wi (rj ++ wj) || meetN wj ri)) && pairsS mk j rj wj r (i + 1)
def allS (mk:List Nat):List (List Nat × List Nat) → List (List Nat × List Nat) → Nat → Bool
  | _,[],_=>true
  | pre,(rj,wj) :: r,j=>pairsS mk j rj wj pre 0 && allS mk (pre ++ [(rj,wj)]) r (j + 1)
/-- No slot is written and looked at by operations of open order. -/
def indepS (ops:Array Oper):Bool:=allS (masks ops.toList []) [] (ops.toList.map fun o=>(rdS ops o,wrS o)) 0
def rdL (f:Fp):List Nat:=if f.run then f.rl.map (·.1) ++ fnew f else []
def wrL (f:Fp):List Nat:=if f.run then f.wl.map (·.1) else []
/-- Nor a block. -/
def indepD (ops:Array Oper) (fs:List Fp):Bool:=allS (masks ops.toList []) [] (fs.map fun f=>(rdL f,wrL f)) 0
/-- Every operation of a statement of open order has its place and its guard. -/
def drawS (n:Nat) (ops:Array Oper):Bool:=(ops.toList.all fun o=>dstOK n o.dst && (match o.guard with | some _=>(gslot ops o).isSome | none=>true)) && ops.toList.all fun o=>notD o.op
def pureL (fs:List Fp):Bool:=fs.all fun f=>match f.wl with | []=>true | _=>false
def nodupAll (fs:List Fp):Bool:=fs.all fun f=>nodupK f.wl
def isEnd:Exit → Bool
  | .normal=>true
  | .ret=>true
  | _=>false
def nxt (nx:Nat):Lb → Nat
  | []=>nx
  | _=>nx + 1
/-- The blocks that were not there, or not so. -/
def fresh (nx:Nat) (rl:Lb):Lb:=rl.filter fun p=>Nat.ble nx p.1
def tree (rl:Lb):Tr:=tupd .nil rl
def keysL (rl:Lb):List Nat:=rl.map (·.1)
/-- No range over a function. -/
def noRange:Code → Bool
  | .seq x y=>noRange x && noRange y
  | .cond _ x y=>noRange x && noRange y
  | .block _ c=>noRange c
  | .loop c=>noRange c
  | .scope c=>noRange c
  | .rangeFunc _ _ _ _=>false
  | _=>true
def ySlots (ps:List Nat) (xs:List PV) (ts:List Nat) (vs:List PV):Al:=(ps.zip xs).foldl (fun al p=>p :: al) (ts.zip vs)
/-- The slots, each once. -/
def uni (al:Al):Al:=raOf al (al.map (·.1))
def valsOf (al:Al):List PV:=al.map (·.2)
def keysOf (al:Al):List Nat:=al.map (·.1)
def yOK (m:Nat) (ps:List Nat) (xs:List PV) (ts:List Nat) (vs:List PV) (assign body:Code):Bool:=
  Nat.beq ps.length xs.length && (Nat.beq ts.length vs.length && (ps.all (fun p=>Nat.blt p m) && (noRange assign && noRange body)))
/-- A scope with labels: from a goto on at its label, some times over. -/
def xscope (ih:Task → Option Outc) (n:Nat) (body:Code) (lo:Nat):Nat → Code → Al → Tr → Nat → Option Outc
  | 0,_,_,_,_=>none
  | f + 1,c,al,m,nx=>match ih (.code n c al m nx lo) with
    | some (.st e al' m' nx')=>match e with
      | .goto l=>match findLabel body l with
        | some rest=>xscope ih n body lo f rest al' m' nx'
        | none=>some (.st (.goto l) al' m' nx')
      | e=>some (.st e al' m' nx')
    | _=>none
def Xstep (P:Program) (G:List (Nat × List PV)) (ih:Task → Option Outc):Task → Option Outc
  | .code n c al m nx lo=>match c with
    | .skip=>some (.st .normal al m nx)
    | .seq x y=>match ih (.code n x al m nx lo) with
      | some (.st e al' m' nx')=>match e with
        | .normal=>ih (.code n y al' m' nx' lo)
        | e=>some (.st e al' m' nx')
      | _=>none
    | .cond (.tmp t) x y=>match lget al t with
      | some (.bool b)=>bif b then ih (.code n x al m nx lo) else ih (.code n y al m nx lo)
      | _=>none
    | .cond (.const (.bool b)) x y=>bif b then ih (.code n x al m nx lo) else ih (.code n y al m nx lo)
    | .block i c=>match ih (.code n c al m nx lo) with
      | some (.st e al' m' nx')=>match e with
        | .exit j=>bif j.beq i then some (.st .normal al' m' nx') else some (.st (.exit j) al' m' nx')
        | e=>some (.st e al' m' nx')
      | _=>none
    | .loop c=>match ih (.code n c al m nx lo) with
      | some (.st e al' m' nx')=>match e with
        | .normal=>ih (.code n (.loop c) (raOf al' (al.map (·.1))) m' nx' lo)
        | e=>some (.st e al' m' nx')
      | _=>none
    | .exit i=>some (.st (.exit i) al m nx)
    | .goto i=>some (.st (.goto i) al m nx)
    | .scope c=>xscope ih n c lo 64 c al m nx
    | .ret=>some (.st .ret al m nx)
    | .label _=>some (.st .normal al m nx)
    | .rangeFunc g ps assign body=>match xev G al g with
      | some (.fn f caps)=>match reach m 100000 (labsL (valsOf (uni al) ++ caps)) [] with
        | some rl=>match ih (.fn f (.yld n ps.toList assign body (keysOf (uni al)) (valsOf (uni al)) :: caps) (tree rl) nx lo) with
          | some (.ret v m' nx')=>match reach m' 100000 (labs v ++ keysL rl) [] with
            | some rl'=>some (.st .normal al (tupd m rl') nx')
            | none=>none
          | _=>none
        | none=>none
      | _=>none
    | .region _ ops false=>ih (.ops n ops ops.toList al m nx lo)
    | .region _ ops true=>ih (.draw n ops ops.toList [] al m nx lo)
    | _=>none
  | .ops n ops rest al m nx lo=>match rest with
    | []=>some (.st .normal al m nx)
    | o :: rest=>match wants ops al o with
      | some true=>match o.op with
        | .call ⟨.value fo,args,_⟩=>match xev G al fo,xevs G al args.toList with
          | some (.fn f caps),some xs=>match ih (.fn f (xs ++ caps) m nx lo) with
            | some (.ret v m' nx')=>bif dstOK n o.dst then ih (.ops n ops rest (oset o.dst v al) m' nx' lo) else none
            | _=>none
          | some (.yld k ps assign body ts vs),some xs=>match reach m 100000 (labsL (vs ++ xs)) [] with
            | some rl=>bif yOK k ps xs ts vs assign body && dstOK n o.dst then (match ih (.code k assign (ySlots ps xs ts vs) (tree rl) nx lo) with
              | some (.st .normal al1 m1 nx1)=>match reach m1 100000 (labsL (valsOf (uni al1)) ++ keysL rl) [] with
                | some rl1=>match ih (.code k body (uni al1) (tree rl1) nx1 lo) with
                  | some (.st .normal al2 m2 nx2)=>match reach m2 100000 (keysL rl) [] with
                    | some rl2=>ih (.ops n ops rest (oset o.dst (.bool true) al) (tupd m rl2) nx2 lo)
                    | none=>none
                  | _=>none
                | none=>none
              | _=>none) else none
            | none=>none
          | _,_=>none
        | op=>match xop2 P G o al (rlOf G al m op) nx with
          | some (x,wl)=>bif dstOK n o.dst && wlOK (rlOf G al m op) nx lo wl then ih (.ops n ops rest (oset o.dst x al) (tupd m wl) (nxt nx wl) lo) else none
          | none=>none
      | some false=>bif dstOK n o.dst then ih (.ops n ops rest (oset o.dst .dead al) m nx lo) else none
      | none=>none
  | .draw n ops rest fs al m nx lo=>match rest with
    | []=>bif edgesOK ops && (indepS ops && drawS n ops) then (bif pureL fs || (nodupAll fs && indepD ops fs.reverse) then some (.st .normal al m nx) else none) else none
    | o :: rest=>match wants ops al o with
      | some true=>match o.op with
        | .call ⟨.value fo,args,_⟩=>match xev G al fo,xevs G al args.toList with
          | some (.fn f caps),some xs=>match reach m 100000 (labsL (xs ++ caps)) [] with
            | some rl=>match ih (.fn f (xs ++ caps) (tree rl) nx nx) with
              | some (.ret v m' nx')=>match reach m' 100000 (labs v ++ keysL rl) [] with
                | some rl'=>ih (.draw n ops rest (⟨raOf al (slotsOf (opnds o.op)),rl,v,fresh nx rl',true,false⟩ :: fs) (oset o.dst v al) (tupd m (fresh nx rl')) nx' lo)
                | none=>none
              | _=>match ih (.fn f (xs ++ caps) (tree rl) nx lo) with
                | some (.ret v m' nx')=>match reach m' 100000 (labs v ++ keysL rl) [] with
                  | some rl'=>ih (.draw n ops rest (⟨raOf al (slotsOf (opnds o.op)),rl,v,rl',true,false⟩ :: fs) (oset o.dst v al) (tupd m rl') nx' lo)
                  | none=>none
                | _=>none
            | none=>none
          | _,_=>none
        | op=>match xop2 P G o (raOf al (slotsOf (opnds op))) (rlOf G (raOf al (slotsOf (opnds op))) m op) nx with
          | some (x,wl)=>bif wlOK (rlOf G (raOf al (slotsOf (opnds op))) m op) nx lo wl then
              ih (.draw n ops rest (⟨raOf al (slotsOf (opnds op)),rlOf G (raOf al (slotsOf (opnds op))) m op,x,wl,true,false⟩ :: fs) (oset o.dst x al) (tupd m wl) (nxt nx wl) lo) else none
          | none=>none
      | some false=>ih (.draw n ops rest (⟨[],[],.dead,[],false,gdOf ops al o⟩ :: fs) (oset o.dst .dead al) m nx lo)
      | none=>none
  | .fn f args m nx lo=>match P.funcs[f]? with
    | some fn=>match fn.body with
      | some c=>bif Nat.ble args.length fn.ntmps then (match ih (.code fn.ntmps c (entry args 0) m nx lo) with
        | some (.st e al' m' nx')=>bif isEnd e then (match xresT P al' m' fn.results.toList with
          | some xs=>some (.ret (rtup xs) m' nx')
          | none=>none) else none
        | _=>none) else none
      | none=>none
    | none=>none
def X (P:Program) (G:List (Nat × List PV)):Nat → Task → Option Outc
  | 0=>fun _=>none
  | k + 1=>Xstep P G (X P G k)
end Go.SH
namespace Go.SH
section
variable {E:Env} {K:Nat → Prop} {n:Nat} {al:Al} {L:Lb} {Q:Exit → Al → Lb → Prop}
theorem stepR_scope {P:Program} {b:Frame} {a:Act} {k:List Item} {cs:List Frame} {w:World} {c:Code}:step P (lone (b.atR a (.code (.scope c) :: k)) cs w) = .next (lone (b.atR a (.code c :: .inScope c :: k)) cs w):=
  step_lone_go (by simp [stepG,stepG.exec,Frame.atR])
theorem stepR_inScope {P:Program} {b:Frame} {a:Act} {k:List Item} {cs:List Frame} {w:World} {c:Code}:step P (lone (b.atR a (.inScope c :: k)) cs w) = .next (lone (b.atR a k) cs w):=
  step_lone_go (by simp [stepG,stepG.exec,Frame.atR])
/-- What a piece of a scope does, the scope around it. -/
def AWsc (E:Env) (K:Nat → Prop) (n:Nat) (body c:Code) (Q:Exit → Al → Lb → Prop) (al:Al) (L:Lb):Prop:=
  ∀ A w σ a,Rel E A w σ al L a → a.tmps.size = n → ∀ b k cs,b.roundOf = (fen E.ro).round → (fen E.ro).fn b.fn → (fen E.ro).room (cs.length + 1 + 0) → ∃ e a' w',Post E K A w σ L n Q e a' w' ∧ ArrivesIn (Machine.fenced E.P (fen E.ro)) E.P (lone (b.atR a (.code c :: .inScope body :: k)) cs w) b k cs e a' w'
theorem AW_scope {c:Code} (h:AWsc E K n c c Q al L):AW E K n (.scope c) Q al L:=by
  intro A w σ a r t b k cs hro hb hrm
  obtain ⟨e,a',w',hq,harr⟩:=h A w σ a r t b k cs hro hb hrm
  exact ⟨e,a',w',hq,.of_steps (.one (fenced_calm hb hrm rfl) stepR_scope) harr⟩
/-- Where a goto goes to. -/
def scopeQ (E:Env) (K:Nat → Prop) (n:Nat) (body:Code) (Q:Exit → Al → Lb → Prop):Exit → Al → Lb → Prop
  | .goto l,al,L=>match findLabel body l with | some rest=>AWsc E K n body rest Q al L | none=>Q (.goto l) al L
  | e,al,L=>Q e al L
theorem AWsc_run {body c:Code} (h:AW E K n c (scopeQ E K n body Q) al L):AWsc E K n body c Q al L:=by
  intro A w σ a r t b k cs hro hb hrm
  obtain ⟨e,a₁,w₁,⟨al₁,L₁,σ₁,q,r₁,g₁,t₁⟩,harr⟩:=h A w σ a r t b (.inScope body :: k) cs hro hb hrm
  cases e with
  | normal=>exact ⟨.normal,a₁,w₁,⟨al₁,L₁,σ₁,q,r₁,g₁,t₁⟩,StepsIn.trans harr (.one (fenced_calm hb hrm rfl) stepR_inScope)⟩
  | exit id=>exact ⟨_,a₁,w₁,⟨al₁,L₁,σ₁,q,r₁,g₁,t₁⟩,fun k' hk=>harr.1 k' (by simp [exitTo,hk]),fun hr hk=>harr.2 hr (by simp [exitTo,hk])⟩
  | goto l=>
    simp only [scopeQ] at q
    cases hf:findLabel body l with
    | none=>
      rw [hf] at q
      have hg:gotoIn l (.inScope body :: k) = gotoIn l k:=by simp [gotoIn,hf]
      exact ⟨_,a₁,w₁,⟨al₁,L₁,σ₁,q,r₁,g₁,t₁⟩,fun k' hk=>harr.1 k' (by rw [hg];exact hk),fun hr hk=>harr.2 hr (by rw [hg];exact hk)⟩
    | some rest=>
      rw [hf] at q
      have hg:gotoIn l (.inScope body :: k) = some (.code rest :: .inScope body :: k):=by simp [gotoIn,hf]
      obtain ⟨e₂,a₂,w₂,hq₂,harr₂⟩:=q A w₁ σ₁ a₁ r₁ t₁ b k cs hro hb hrm
      exact ⟨e₂,a₂,w₂,Post.trans g₁ hq₂,.of_steps (harr.1 _ hg) harr₂⟩
  | ret=>exact ⟨_,a₁,w₁,⟨al₁,L₁,σ₁,q,r₁,g₁,t₁⟩,harr⟩
  | panic ch=>exact ⟨_,a₁,w₁,⟨al₁,L₁,σ₁,q,r₁,g₁,t₁⟩,harr⟩
  | outgrown=>exact ⟨_,a₁,w₁,⟨al₁,L₁,σ₁,q,r₁,g₁,t₁⟩,harr⟩
theorem within_false {S:Nat → Bool} {x:PV} (h:pureV x = true):within S x = true:=by
  have:∀ x:PV,within (fun _=>false) x = true → within S x = true:=by
    intro x
    apply PV.rec (motive_1:=fun x=>within (fun _=>false) x = true → within S x = true) (motive_2:=fun xs=>withinL (fun _=>false) xs = true → withinL S xs = true)
    all_goals intros
    all_goals simp_all [within,withinL]
  exact this x h
/-- .. where nothing is of a family, but what the new blocks hold. -/
theorem Rel.growN {E:Env} (hG:GOK E) {A K:Nat → Prop} {w w':World} {σ σ':Sig} {al:Al} {L L':Lb} {a:Act} (h:Rel E A w σ al L a) (hnf:∀ t x,lget al t = some x → within noF x = true) (hb:BR w' σ' A L') (hg:Grow K w σ L w' σ' L') (hK:∀ l,l ≠ fkeep → K l):Rel E A w' σ' al L' a:=
  ⟨fun t x hx=>let ⟨v,h1,h2⟩:=h.tmps t x hx;⟨v,h1,h2.growN (hnf t x hx) hg hK⟩,hb,fun g cells hc=>(h.globals g cells hc).growN (within_false (by simp [pureV,within,hG g cells hc])) hg hK,h.nodefer.grow h.blocks hg⟩
end
/-- What is run looks at the blocks 'rl' alone. -/
theorem ACallsT.useG {E:Env} {T:World → List Value → (Ending → World → Prop) → Prop} (hT:∀ w cargs (R R':Ending → World → Prop),(∀ e w',R e w' → R' e w') → T w cargs R → T w cargs R') {args:List PV} {v:PV} {rl LL wl:Lb} (hG:GOK E) (h:ACallsT E T args rl fun r L'=>r = v ∧ L' = LL)
    (hw:withinL (hasL rl) args = true) (hc:∀ l cells,lget rl l = some (some cells) → withinL (hasL rl) cells = true)
    (hkeys:∀ l,lget rl l ≠ none → lget LL l ≠ none) (hnew:∀ l y,lget LL l = some y → lget rl l = none → ∃ p ∈ wl,p.1 = l)
    (heq:∀ (L:Lb) (l:Nat),(∀ l y,lget rl l = some y → lget L l = some y) → lget (lupd L wl) l = lget (LL ++ L) l)
    {A:Nat → Prop} {w:World} {σ:Sig} {al:Al} {L:Lb} {a:Act} (r:Rel E A w σ al L a) (hno:Kst rl ∨ ∀ l cells,lget rl l = none → lget L l = some (some cells) → withinL noF cells = true) (h2:∀ l y,lget rl l = some y → lget L l = some y) (h3:∀ p ∈ wl,lget rl p.1 ≠ none ∨ lget L p.1 = none)
    {cargs:List Value} (hl:cargs.length = args.length) (hcv:∀ (i:Nat) (x:PV) (v:Value),args[i]? = some x → cargs[i]? = some v → VR w σ (avo A σ L) x v) :
    T w cargs fun e w'=>∃ σ' c,e = .returned c ∧ VR w' σ' (avo A σ' (lupd L wl)) v c ∧ BR w' σ' A (lupd L wl) ∧ Grow (Kx rl) w σ L w' σ' (lupd L wl):=by
  refine hT _ _ _ _ ?_ (h.frameG hT h2 hw hc hno r hl hcv hG)
  rintro e w' ⟨x,c,L1',rfl,⟨rfl,rfl⟩,hk⟩
  obtain ⟨σ',e1,e2,e3⟩:=hk (fun l hl=>by
    by_cases hr:lget rl l = none
    · cases hy:lget L1' l with
      | none=>exact absurd hy hl
      | some y=>
        obtain ⟨p,hp,rfl⟩:=hnew l y hy hr
        rcases h3 p hp with h | h
        · exact .inl h
        · exact .inr h
    · exact .inl hr) hkeys
  have hq:=fun l=>heq L l h2
  have hgg:Grow top w' σ' (L1' ++ L) w' σ' (lupd L wl):=⟨Nat.le_refl _,fun _ _ _ h=>h,fun β _ hn=>⟨fun ha=>hn ((avOf_congr hq β).1 ha),rfl⟩,⟨rfl,rfl,rfl⟩,fun _ _ _ _ h=>⟨h,rfl⟩⟩
  refine ⟨σ',c,rfl,e1.grow hgg,⟨?_,?_,?_,?_,e2.fr.mono (Nat.le_refl _) (fun _ _ _ k=>k) (fun _ _ _ _=>rfl) fun _ β _ _=>(labOf_congr hq β).1⟩,e3.trans (hgg.weaken fun _ _=>trivial)⟩
  · intro l cells hl
    rw [hq] at hl
    rcases e2.all l cells hl with h1 | ⟨β,add,size,c,T,fr,hB⟩
    · exact .inl h1
    · exact .inr ⟨β,add,size,c,T,fr,⟨hB.sig,hB.heap,hB.hsz,hB.fits,fun i x hx=>let ⟨v,h1,h2⟩:=hB.vals i x hx;⟨v,h1,h2.grow hgg⟩,hB.frs⟩⟩
  · intro l l' c c' β a s a' s' h1 h2;rw [hq] at h1 h2;exact e2.inj l l' c c' β a s a' s' h1 h2
  · intro l x hx;rw [hq];exact e2.dom l x hx
  · intro β hA;obtain ⟨h1,h2⟩:=e2.lo β hA;exact ⟨h1,fun ha=>h2 ((avOf_congr hq β).1 ha)⟩
theorem ACallsT.use {E:Env} {T:World → List Value → (Ending → World → Prop) → Prop} (hT:∀ w cargs (R R':Ending → World → Prop),(∀ e w',R e w' → R' e w') → T w cargs R → T w cargs R') {args:List PV} {v:PV} {rl LL wl:Lb} (hG:GOK E) (h:ACallsT E T args rl fun r L'=>r = v ∧ L' = LL)
    (hw:withinL (hasL rl) args = true) (hc:∀ l cells,lget rl l = some (some cells) → withinL (hasL rl) cells = true)
    (hkeys:∀ l,lget rl l ≠ none → lget LL l ≠ none) (hnew:∀ l y,lget LL l = some y → lget rl l = none → ∃ p ∈ wl,p.1 = l)
    (heq:∀ (L:Lb) (l:Nat),(∀ l y,lget rl l = some y → lget L l = some y) → lget (lupd L wl) l = lget (LL ++ L) l)
    {A:Nat → Prop} {w:World} {σ:Sig} {al:Al} {L:Lb} {a:Act} (r:Rel E A w σ al L a) (hno:Kst rl) (h2:∀ l y,lget rl l = some y → lget L l = some y) (h3:∀ p ∈ wl,lget rl p.1 ≠ none ∨ lget L p.1 = none)
    {cargs:List Value} (hl:cargs.length = args.length) (hcv:∀ (i:Nat) (x:PV) (v:Value),args[i]? = some x → cargs[i]? = some v → VR w σ (avo A σ L) x v) :
    T w cargs fun e w'=>∃ σ' c,e = .returned c ∧ VR w' σ' (avo A σ' (lupd L wl)) v c ∧ BR w' σ' A (lupd L wl) ∧ Grow top w σ L w' σ' (lupd L wl):=
  hT _ _ _ _ (fun _ _ ⟨σ',c,e1,e2,e3,e4⟩=>⟨σ',c,e1,e2,e3,e4.strong hno⟩) (h.useG hT hG hw hc hkeys hnew heq r (.inl hno) h2 h3 hl hcv)
section
variable {E:Env} {d:Option Tmp} {ty:TypeId} {pos:String} {after:Array Edge} {g:Option (Nat × Bool)} {ra:Al} {rl:Lb}
/-- A call where the order is open: it looks at the blocks 'rl' alone. -/
theorem AOp_callG {fo:Operand} {args:Array Operand} {ts:Array TypeId} {f:FuncId} {caps xs:List PV} {v:PV} {LL wl:Lb} (hG:GOK E) (hf:xev E.G ra fo = some (.fn f caps)) (hx:xevs E.G ra args.toList = some xs)
    (hrun:∀ args w,(callFunc f args).run E.P w = .ok (.enter f args) w) (h:ACalls E f (xs ++ caps) rl fun r L'=>r = v ∧ L' = LL)
    (hw:withinL (hasL rl) (xs ++ caps) = true) (hc:∀ l cells,lget rl l = some (some cells) → withinL (hasL rl) cells = true)
    (hkeys:∀ l,lget rl l ≠ none → lget LL l ≠ none) (hnew:∀ l y,lget LL l = some y → lget rl l = none → ∃ p ∈ wl,p.1 = l)
    (heq:∀ (L:Lb) (l:Nat),(∀ l y,lget rl l = some y → lget L l = some y) → lget (lupd L wl) l = lget (LL ++ L) l) (hno:Kst rl):AOp E ⟨d,.call ⟨.value fo,args,ts⟩,ty,pos,after,g⟩ ra rl v wl:=by
  intro A w σ al L a r h1 h2 h3
  obtain ⟨cargs,hr,hl,hcv⟩:=run_call (d:=d) (ty:=ty) (pos:=pos) (after:=after) (g:=g) (ts:=ts) r h1 hf hx hrun
  unfold Oper.wp
  rw [hr]
  exact (ACallsT.use (T:=fun w cargs R=>Calls E.P f cargs.toArray w R) (fun w cargs R R' hr h=>h.mono hr) hG h hw hc hkeys hnew heq r hno h2 h3 (by omega) hcv).mono fun e w' ⟨σ',c,he,e1,e2,e3⟩=>by subst he;exact ⟨σ',c,rfl,e1,e2,e3⟩
/-- What an operation does that may write families' blocks. -/
def AOpW (E:Env) (o:Oper) (ra:Al) (rl:Lb) (x:PV) (wl:Lb):Prop:=
  ∀ A w σ al L a,Rel E A w σ al L a → (∀ t y,lget ra t = some y → lget al t = some y) → (∀ l y,lget rl l = some y → lget L l = some y) → (∀ p ∈ wl,lget rl p.1 ≠ none ∨ lget L p.1 = none) →
    (∀ l cells,lget rl l = none → lget L l = some (some cells) → withinL noF cells = true) →
    o.wp E.P a w (fun a' w'=>∃ σ' c,a' = a.put o.dst c ∧ VR w' σ' (avo A σ' (lupd L wl)) x c ∧ BR w' σ' A (lupd L wl) ∧ Grow (fun l=>l ≠ fkeep) w σ L w' σ' (lupd L wl)) fun _ _ _=>False
theorem AOp_callW {fo:Operand} {args:Array Operand} {ts:Array TypeId} {f:FuncId} {caps xs:List PV} {v:PV} {LL wl:Lb} (hG:GOK E) (hf:xev E.G ra fo = some (.fn f caps)) (hx:xevs E.G ra args.toList = some xs)
    (hrun:∀ args w,(callFunc f args).run E.P w = .ok (.enter f args) w) (h:ACalls E f (xs ++ caps) rl fun r L'=>r = v ∧ L' = LL)
    (hw:withinL (hasL rl) (xs ++ caps) = true) (hc:∀ l cells,lget rl l = some (some cells) → withinL (hasL rl) cells = true)
    (hkeys:∀ l,lget rl l ≠ none → lget LL l ≠ none) (hnew:∀ l y,lget LL l = some y → lget rl l = none → ∃ p ∈ wl,p.1 = l)
    (heq:∀ (L:Lb) (l:Nat),(∀ l y,lget rl l = some y → lget L l = some y) → lget (lupd L wl) l = lget (LL ++ L) l):AOpW E ⟨d,.call ⟨.value fo,args,ts⟩,ty,pos,after,g⟩ ra rl v wl:=by
  intro A w σ al L a r h1 h2 h3 hno
  obtain ⟨cargs,hr,hl,hcv⟩:=run_call (d:=d) (ty:=ty) (pos:=pos) (after:=after) (g:=g) (ts:=ts) r h1 hf hx hrun
  unfold Oper.wp
  rw [hr]
  exact (ACallsT.useG (T:=fun w cargs R=>Calls E.P f cargs.toArray w R) (fun w cargs R R' hr h=>h.mono hr) hG h hw hc hkeys hnew heq r (.inr hno) h2 h3 (by omega) hcv).mono fun e w' ⟨σ',c,he,e1,e2,e3⟩=>by subst he;exact ⟨σ',c,rfl,e1,e2,e3.weaken fun l hl e=>absurd e hl⟩
theorem AWl_opW {K:Nat → Prop} {n:Nat} {al:Al} {L:Lb} {ops:Array Oper} {rest:List Oper} {o:Oper} {Q:Exit → Al → Lb → Prop} {x:PV} {wl:Lb} (h:AOpW E o ra rl x wl) (hG:GOK E) (hnf:∀ t x,lget al t = some x → within noF x = true) (hK:¬ K fkeep)
    (hno:∀ l cells,lget rl l = none → lget L l = some (some cells) → withinL noF cells = true) (hd:∀ t,o.dst = some t → t < n) (h1:∀ t y,lget ra t = some y → lget al t = some y) (h2:∀ l y,lget rl l = some y → lget L l = some y)
    (h3:∀ p ∈ wl,lget rl p.1 ≠ none ∨ lget L p.1 = none) (hg:wants ops al o = some true)
    (k:AWl E K n ops rest Q (oset o.dst x al) (lupd L wl)):AWl E K n ops (o :: rest) Q al L:=by
  intro A w σ a r t
  simp only [wpListIn]
  rw [if_pos (wants_ok r hg)]
  have hop:=h A w σ al L a r h1 h2 h3 hno
  refine Oper_wpIn_mono (Oper_wpIn (not_defer hop ?_) hop) ?_ fun _ _ _ h=>h.elim
  · rintro a' w' ⟨σ',c,rfl,_⟩;exact put_defers _ _ _
  rintro a' w' ⟨σ',c,rfl,hv,hb,hgr⟩
  have r':=(r.growN hG hnf hb hgr fun l h=>h).put (d:=o.dst) (fun u hu=>by rw [t];exact hd u hu) hv
  refine wpListIn_mono ?_ _ _ _ (k A w' σ' _ r' (by rw [size_put];exact t))
  exact fun e a w h=>Post.trans (hgr.weaken fun l hl e=>hK (e ▸ hl)) h
end
end Go.SH
namespace Go.SH
theorem lget_lupdN {α:Type} {wl L:List (Nat × α)} {k:Nat} (h:∀ p ∈ wl,∀ q ∈ wl,p.1 = q.1 → p = q):lget (lupd L wl) k = match lget wl k with | some c=>some c | none=>lget L k:=by
  rcases lget_lupdG wl L k with ⟨p,hp,rfl,h2⟩ | ⟨h1,h2⟩
  · have hk:(keys wl).elem p.1 = true:=by simp only [keys,List.elem_eq_mem,decide_eq_true_eq];exact List.mem_map.2 ⟨p,hp,rfl⟩
    cases hc:lget wl p.1 with
    | none=>exact absurd hc (elemK.1 hk)
    | some c=>
      have:=h p hp _ (mem_of_lget hc) rfl
      rw [h2,this]
  · cases hc:lget wl k with
    | none=>exact h2
    | some c=>exact absurd rfl (h1 _ (mem_of_lget hc))
theorem set_ok {s:St} (h:s.ok) {d:Option Nat} {x:DV} (hx:x.ok):(s.set d x).ok:=by
  cases d with
  | none=>exact h
  | some t=>
    refine ⟨fun u y hy=>?_,h.2⟩
    simp only [St.set,lget] at hy
    split at hy
    · simp at hy;subst hy;exact hx
    · exact h.1 u y hy
theorem wr_ok {s:St} (h:s.ok) {wl:DLb} {dl:DL} (hw:wlOk wl):(s.wr wl dl).ok:=by
  refine ⟨h.1,fun l c hl=>?_⟩
  simp only [St.wr] at hl
  rcases lget_lupdG wl s.L l with ⟨p,hp,rfl,h2⟩ | ⟨_,h2⟩
  · rw [h2] at hl;simp at hl;subst hl;exact hw p hp
  · rw [h2] at hl;exact h.2 l c hl
theorem set_up (s:St) (d:Option Nat) (x:DV):Up s (s.set d x):=fun _ h=>h.set d x
theorem wr_up {s:St} {wl:DLb} {dl:DL} (h:DirtyOK s.L wl dl):Up s (s.wr wl dl):=fun _ k=>k.wr h
theorem dal_set (s:St) (d:Option Nat) (x:DV):dal (s.set d x).al = oset d x.pv (dal s.al):=by cases d <;> rfl
theorem dlb_set (s:St) (d:Option Nat) (x:DV):(s.set d x).L = s.L:=by cases d <;> rfl
theorem resV_ok {s:St} (h:s.ok):(resV s).ok:=by
  unfold resV
  split
  · rename_i d hd;exact h.1 _ _ hd
  · trivial
theorem nodupM_mem:∀ {m m':List (Nat × Nat)},nodupM (m ++ m') = true → ∀ p ∈ m,lk (m ++ m') p.1 = p.2:=fun h p hp=>nodupM_lk h p (List.mem_append_left _ hp)
section
variable {E:Env} {d:Option Tmp} {ty:TypeId} {pos:String} {after:Array Edge} {gg:Option (Nat × Bool)} {ra:DAl} {rl:DLb} {R:Type} {k:DV → DLb → DL → Option R} {r:R} {G:GTab}
/-- .. that may write families' blocks. -/
def OpB (wk:Bool) (E:Env) (o:Oper) (ra:DAl) (rl:DLb) {R:Type} (k:DV → DLb → DL → Option R) (r:R):Prop:=
  ∃ x wl dl,(match wk with
    | false=>AOp E o (dal ra) (dlb rl) x.pv (dlb wl)
    | true=>AOpW E o (dal ra) (dlb rl) x.pv (dlb wl)) ∧ x.ok ∧ wlOk wl ∧ DirtyOK rl wl dl ∧ k x wl dl = some r
theorem dcNoF_ok {c:DC} (h:dcNoF c = true) {cells:List PV} (hc:c.pv = some cells):withinL noF cells = true:=by
  cases c with
  | gone=>simp [DC.pv] at hc
  | cs ds=>
    simp [DC.pv] at hc;subst hc
    simp only [dcNoF,Bool.and_eq_true] at h
    exact labsL_withinN h.1 (.inl h.2)
  | ls t l=>simp [DC.pv] at hc;subst hc;exact fl_withinN (.inl h) _
theorem dCallI_ok {wk:Bool} (hG:E.G = gtPV G) (hE:GOK E) (hal:alOk ra) (hrl:lbOk rl) {fr:Nat} {con:ICon E} {f:FuncId} {fo:Operand} {args:Array Operand} {ts:Array TypeId} {caps xs:List DV} (hf:dev G ra fo = some (.fn f caps)) (hx:devs G ra args.toList = some xs)
    (h:dCallI wk rl fr con f (xs ++ caps) k = some r):OpB wk E ⟨d,.call ⟨.value fo,args,ts⟩,ty,pos,after,gg⟩ ra rl k r:=by
  obtain ⟨hf',_⟩:=dev_ok hal hf
  obtain ⟨hx',hxo⟩:=devs_ok hal hx
  rw [← hG] at hf' hx'
  unfold dCallI at h
  split at h
  rotate_left
  · simp at h
  rename_i hc0;obtain ⟨rfl,hk1,hk2,hk3⟩:=hc0
  split at h
  rotate_left
  · simp at h
  rename_i g1 hg1
  split at h
  rotate_left
  · simp at h
  rename_i g hg
  obtain ⟨hq,h⟩:=reqs_ok h
  split at h
  rotate_left
  · simp at h
  rename_i a ha
  obtain ⟨v,hv,h⟩:=bind_some h
  simp only at h
  split at h
  rotate_left
  · simp at h
  rename_i hc
  obtain ⟨c1,c2,c3,c4,c5,c6,c7,c8,c9,c10,c11,c12,c13,c14⟩:=hc
  have hu:=pack_ok ha
  obtain ⟨a1,as,a2,a3,a4⟩:=gets_mks _ con.ar hg1
  obtain ⟨b1,ys,b2,b4⟩:=getL_ok hg
  have hvs:g.vs = as ++ ys:=by rw [b2,a2];simp
  have hC:=con.ok a v hv
  rw [hu] at hC
  generalize hlen:inLen con.ar con.ls g.vs = len at *
  generalize ho:con.ot.app v (inS con.ar con.ls g.vs) = o at *
  have hAeq:inA con.ar con.ls g.vs = (Sh.mks len con.ar (as ++ ys)).1:=by unfold inA;rw [hlen,hvs]
  have hτ:∀ p ∈ g.m,lk (g.m ++ newN (fr) (keys con.ls) (keys o.L) 0) p.1 = p.2:=nodupM_mem c1
  generalize lk (g.m ++ newN (fr) (keys con.ls) (keys o.L) 0) = τ at *
  have hLk:keys (inL con.ar con.ls g.vs) = keys con.ls:=mkL_keys _ _ _
  have hS:hasL (dlb (inL con.ar con.ls g.vs)) = fun l=>(keys con.ls).elem l:=by rw [hasL_keys,hLk]
  have hF:Fin τ (hasL (dlb (inL con.ar con.ls g.vs))) len g:=⟨fun p hp=>⟨hτ p hp,by rw [hS];exact List.all_eq_true.1 c2 p hp⟩,hq⟩
  obtain ⟨d1,d2,d3⟩:=a4 len ys τ _ (hF.sub b1).m (hF.sub b1).q
  obtain ⟨e1,e2⟩:=b4 [] hF
  have hx1:=getL_x hg b2 (rest:=[]) hF
  rw [List.append_nil] at e1 e2 hx1
  have hLeq:inL con.ar con.ls g.vs = (mkL len con.ls ys).1:=by
    unfold inL;rw [hlen,hvs]
    simp only at d1
    rw [d1]
  let L2:Lb:=con.ls.map fun p=>(τ p.1,match lget rl (τ p.1) with | some c=>c.pv | none=>none)
  have hL2k:hasL L2 = fun l=>((keys con.ls).map τ).elem l:=by
    have:L2 = dlb (con.ls.map fun p=>(τ p.1,match lget rl (τ p.1) with | some c=>c | none=>.gone)):=by
      simp only [L2,dlb,List.map_map]
      refine List.map_congr_left fun p _=>?_
      simp only [Function.comp]
      cases lget rl (τ p.1) <;> rfl
    rw [this,hasL_keys]
    funext l
    simp only [keys,List.map_map]
    rfl
  have hin:∀ l,l ∈ keys con.ls → ∃ c cells,lget rl (τ l) = some c ∧ c.pv = some cells ∧ dcLabsN (fun l=>((keys con.ls).map τ).elem l) c = true:=by
    intro l hl
    obtain ⟨p,hp,rfl⟩:=List.mem_map.1 hl
    have:=List.all_eq_true.1 c4 p hp
    split at this
    · simp at this
    · rename_i c hne hc
      cases c with
      | gone=>exact (hne rfl).elim
      | cs ds=>exact ⟨_,_,hc,rfl,this⟩
      | ls t x=>exact ⟨_,_,hc,rfl,this⟩
    · simp at this
  have hsub:∀ p ∈ L2,lget (dlb rl) p.1 = some p.2:=by
    intro p hp
    obtain ⟨q,hq,rfl⟩:=List.mem_map.1 hp
    obtain ⟨c,cells,h1,h2,_⟩:=hin q.1 (List.mem_map.2 ⟨q,hq,rfl⟩)
    simp only;rw [lget_dlb,h1];rfl
  have hL2get:∀ l,l ∈ keys con.ls → lget L2 (τ l) = lget (dlb rl) (τ l):=by
    intro l hl
    have:hasL L2 (τ l) = true:=by rw [hL2k];simp only [List.elem_eq_mem,decide_eq_true_eq];exact List.mem_map.2 ⟨l,hl,rfl⟩
    simp only [hasL,Option.isSome_iff_exists] at this
    obtain ⟨y,hy⟩:=this
    rw [hy];exact (hsub _ (mem_of_lget hy)).symm
  have hinj:∀ l l',lget (dlb o.L) l ≠ none → lget (dlb o.L) l' ≠ none → τ l = τ l' → l = l':=by
    intro l l' h1 h2 h3
    have hk:∀ {l},lget (dlb o.L) l ≠ none → l ∈ keys o.L:=fun {l} h=>by
      have:hasL (dlb o.L) l = true:=by simpa [hasL,Option.isSome_iff_ne_none] using h
      rw [hasL_keys] at this;simpa using this
    have:=List.all_eq_true.1 (List.all_eq_true.1 c6 l (hk h1)) l' (hk h2)
    simp only [decide_eq_true_eq] at this
    exact this h3
  have hmemo:∀ {l},lget (dlb o.L) l ≠ none ↔ l ∈ keys o.L:=fun {l}=>by
    have:hasL (dlb o.L) l = true ↔ l ∈ keys o.L:=by rw [hasL_keys];simp
    rw [← this];simp [hasL,Option.isSome_iff_ne_none]
  have hmemi:∀ {l},lget (dlb (inL con.ar con.ls g.vs)) l ≠ none ↔ l ∈ keys con.ls:=fun {l}=>by
    have:hasL (dlb (inL con.ar con.ls g.vs)) l = true ↔ l ∈ keys con.ls:=by rw [hS];simp
    rw [← this];simp [hasL,Option.isSome_iff_ne_none]
  have hdom:∀ l,l ∈ keys con.ls → l ∈ keys o.L:=fun l hl=>by simpa using List.all_eq_true.1 c5 l hl
  have hrn:∀ l,l ∈ keys o.L → lget (rnL τ o.L) (τ l) = (lget o.L l).map (DC.rn τ):=fun l hl=>lget_rn fun l' hl' e=>hinj l' l (hmemo.2 hl') (hmemo.2 hl) e
  have hkp:∀ l,lget (dlb (inL con.ar con.ls g.vs)) l ≠ none → τ l = fkeep → l = fkeep:=fun l hl=>by
    have:=List.all_eq_true.1 c13 l (hmemi.1 hl)
    exact of_decide_eq_true this
  have hR:=ACalls.ren (L2:=L2) (LL2:=dlb (rnL τ o.L)) (τ:=τ) (xs:=DV.pvs (xs ++ caps)) hC (by
      rw [hAeq];exact d2.get.1) (fun i x y hx hy=>by rw [hAeq] at hy;exact d2.get.2 i x y hx hy) (fun l c hl=>by
      have hlk:l ∈ keys con.ls:=hmemi.1 (by rw [hl];simp)
      have hm:=mem_of_lget hl
      obtain ⟨⟨l',c'⟩,hp,e⟩:=List.mem_map.1 hm
      simp only [Prod.mk.injEq] at e;obtain ⟨rfl,rfl⟩:=e
      rw [hLeq] at hp
      obtain ⟨_,ys',k2,k3⟩:=e2 _ hp
      simp only at k2 k3
      rcases k3 with ⟨xs',k4,k5⟩ | ⟨k4,_⟩
      · exact ⟨ys',xs',k2,by rw [hL2get _ hlk];exact k4,k5⟩
      · obtain ⟨c,cells,h1,_⟩:=hin _ hlk
        rw [lget_dlb,h1] at k4;simp at k4)
    (fun k' hk'=>by
      have:hasL L2 k' = true:=by simpa [hasL,Option.isSome_iff_ne_none] using hk'
      rw [hL2k] at this
      simp only [List.elem_eq_mem,decide_eq_true_eq] at this
      obtain ⟨l,h1,h2⟩:=List.mem_map.1 this
      exact ⟨l,hmemi.2 h1,h2⟩) hinj (fun l hl=>hmemo.2 (hdom l (hmemi.1 hl)))
    (by rw [hasL_keys];exact labs_within c7) (fun l cells hl=>by
      have hm:=mem_of_lget hl
      obtain ⟨⟨l',c'⟩,hp,e⟩:=List.mem_map.1 hm
      simp only [Prod.mk.injEq] at e;obtain ⟨rfl,e⟩:=e
      have h8:=List.all_eq_true.1 c8 _ hp
      rw [hasL_keys]
      cases c' with
      | gone=>simp [DC.pv] at e
      | cs ds=>simp [DC.pv] at e;subst e;exact labsL_within h8
      | ls t x=>
        simp [DC.pv] at e;subst e
        simp only [dcLabsN,Bool.or_eq_true] at h8
        exact fl_withinN h8 _)
    (fun l c hl=>by
      have hlk:l ∈ keys o.L:=hmemo.1 (by rw [hl];simp)
      rw [lget_dlb] at hl
      cases ho2:lget o.L l with
      | none=>rw [ho2] at hl;simp at hl
      | some c'=>
        rw [ho2] at hl;simp at hl;subst hl
        rw [lget_dlb,hrn l hlk,ho2]
        simp [dc_rn_pv])
    (fun k' hk'=>by
      rw [lget_dlb] at hk'
      obtain ⟨l,h1,h2⟩:=lget_rn_none (L:=o.L) (τ:=τ) (k:=k') (fun e=>hk' (by rw [e];rfl))
      exact ⟨l,hmemo.2 h1,h2⟩) hkp hE
  have hwl_nd:∀ p ∈ wlI τ rl con.ls con.ot o.L,∀ q ∈ wlI τ rl con.ls con.ot o.L,p.1 = q.1 → p = q:=by
    intro p hp q hq e
    obtain ⟨⟨l,c⟩,hp1,rfl⟩:=List.mem_map.1 hp
    obtain ⟨⟨l',c'⟩,hq1,rfl⟩:=List.mem_map.1 hq
    have hp':=(List.mem_filter.1 hp1).1
    have hq':=(List.mem_filter.1 hq1).1
    have h1:=nodupN_lget c11 hp'
    have h2:=nodupN_lget c11 hq'
    have hlk:∀ {l c},(l,c) ∈ o.L → l ∈ keys o.L:=fun h=>List.mem_map.2 ⟨_,h,rfl⟩
    have:=hinj l l' (hmemo.2 (hlk hp')) (hmemo.2 (hlk hq')) e
    subst this
    rw [h1] at h2;simp at h2;rw [h2]
  have hbase:∀ l c,lget o.L l = some c → l ∉ keys con.ot.labs → ∃ c0,(l,c0) ∈ inL con.ar con.ls g.vs ∧ ∃ cu:List (Nat × Nat × DV),(cu.map fun c=>(c.1,c.2.1)) = (con.ot.cups.map fun c=>(c.1,c.2.1)) ∧ c = cupL cu con.ot.killL l c0:=by
    intro l c hl hn
    rw [← ho] at hl
    simp only [Tm.app,Tm.appL] at hl
    rcases lget_appM hl with ⟨p,hp,rfl⟩ | ⟨_,hl⟩
    · have:l ∈ keys con.ot.labs:=by
        have h1:l ∈ (mkL (lenF (lenT con.ot.labs ((unpack con.ot.hs v).drop (nS con.ot.slots))) (inS con.ar con.ls g.vs).L) con.ot.labs (mkS (lenF (lenT con.ot.labs ((unpack con.ot.hs v).drop (nS con.ot.slots))) (inS con.ar con.ls g.vs).L) con.ot.slots (unpack con.ot.hs v)).2).1.map (·.1):=List.mem_map.2 ⟨_,hp,rfl⟩
        rw [mkL_keys] at h1;exact h1
      exact absurd this hn
    · obtain ⟨⟨l',c0⟩,hp,e⟩:=List.mem_map.1 (mem_of_lget hl)
      simp only [Prod.mk.injEq] at e;obtain ⟨rfl,rfl⟩:=e
      exact ⟨c0,mem_of_lget (ded_mem hp).2,_,mkC_keys _ _ _,rfl⟩
  have hcup_no:∀ {cu:List (Nat × Nat × DV)} {l:Nat} {c0:DC},(cu.map fun c=>(c.1,c.2.1)) = (con.ot.cups.map fun c=>(c.1,c.2.1)) → con.ot.killL.elem l = false → ∀ t x,c0 = .ls t x → cupL cu con.ot.killL l c0 = .ls t x:=by
    intro cu l c0 _ hk t x e;subst e;simp only [cupL,hk]
  have hkept:∀ l,l ∈ keys o.L → keptI τ rl con.ls con.ot l = true → ∃ c,lget rl (τ l) = some c ∧ (lget o.L l).map (DC.rn τ) = some c:=by
    intro l hlo hk
    simp only [keptI,Bool.and_eq_true,Bool.not_eq_true'] at hk
    obtain ⟨⟨⟨k1,k2⟩,k3⟩,k4⟩:=hk
    split at k4
    · rename_i sl hsl
      cases hoc:lget o.L l with
      | none=>exact absurd (by rw [lget_dlb,hoc];rfl) (hmemo.2 hlo)
      | some c=>
        have hn:l ∉ keys con.ot.labs:=fun hm=>by
          have:(keys con.ot.labs).elem l = true:=by simpa using hm
          rw [this] at k1;simp at k1
        obtain ⟨c0,h1,cu,h2,h3⟩:=hbase l c hoc hn
        rw [hLeq] at h1
        obtain ⟨sh,h4,h5⟩:=hx1 _ h1
        have h6:=nodupN_lget c12 h4
        rw [hsl] at h6;simp at h6;subst h6
        unfold lsSame at k4
        split at k4
        · rename_i t t' x hls
          simp at k4;subst k4
          obtain ⟨y,h7,h8⟩:=h5
          simp only at h7 h8
          have h9:=h8 x hls
          subst h9
          exact ⟨_,hls,by rw [h3,hcup_no h2 k2 _ _ h7];rfl⟩
        · rename_i ss ds hls
          obtain ⟨ds',es,h6,h7,h8,h9,h10⟩:=h5
          simp only at h6 h7
          rw [hls] at h6;simp at h6;subst h6
          refine ⟨_,hls,?_⟩
          rw [h3,h7]
          simp only [cupL,k2,Option.map_some,DC.rn]
          have hno:∀ i e0,cupD cu l i e0 = e0:=by
            intro i e0
            rcases cupD_or cu l i e0 with ⟨h13,_⟩ | ⟨q,h13,h14,h15,_⟩
            · exact h13
            · exfalso
              have hm:(q.1,q.2.1) ∈ cu.map (fun c=>(c.1,c.2.1)):=List.mem_map.2 ⟨q,h13,rfl⟩
              rw [h2] at hm
              obtain ⟨q',h16,h17⟩:=List.mem_map.1 hm
              simp at h17
              have:(con.ot.cups.any fun c=>decide (c.1 = l)) = true:=List.any_eq_true.2 ⟨q',h16,by simp [h17.1,h14]⟩
              rw [this] at k3;simp at k3
          congr 2
          refine List.ext_getElem? fun i=>?_
          rw [rnsD_get,cupM_get]
          cases hei:es[i]? with
          | none=>
            have:ds.length ≤ i:=by have:=List.getElem?_eq_none_iff.1 hei;omega
            rw [List.getElem?_eq_none this];rfl
          | some e0=>
            have hlt:i < ds.length:=by have:=(List.getElem?_eq_some_iff.1 hei).1;omega
            have hdi:=List.getElem?_eq_getElem hlt
            have hsi:ss[i]? = some (ss[i]'(by omega)):=List.getElem?_eq_getElem (by omega)
            obtain ⟨e,h11,h12⟩:=h10 i _ _ hsi hdi (allExact_get k4 hsi hdi)
            rw [hei] at h11;simp at h11;subst h11
            simp only [Option.map_some,Nat.zero_add,hno]
            rw [h12,hdi]
        · simp at k4
    · simp at k4
  have hwl:∀ l,l ∈ keys o.L → lget (wlI τ rl con.ls con.ot o.L) (τ l) = if keptI τ rl con.ls con.ot l = true then none else (lget o.L l).map (DC.rn τ):=by
    intro l hl
    unfold wlI
    rw [lget_rn]
    · rw [lget_filter (f:=fun l=>!keptI τ rl con.ls con.ot l)]
      cases keptI τ rl con.ls con.ot l <;> simp
    · intro l' hl' e
      obtain ⟨p,hp,rfl⟩:=List.mem_map.1 hl'
      exact hinj _ _ (hmemo.2 (List.mem_map.2 ⟨p,(List.mem_filter.1 hp).1,rfl⟩)) (hmemo.2 hl) e
  have hstate:∀ (L:Lb) (l:Nat),(∀ l y,lget L2 l = some y → lget L l = some y) → lget (lupd L (dlb (wlI τ rl con.ls con.ot o.L))) l = lget (dlb (rnL τ o.L) ++ L) l:=by
    intro L k' hL
    have hwl_nd':∀ p ∈ dlb (wlI τ rl con.ls con.ot o.L),∀ q ∈ dlb (wlI τ rl con.ls con.ot o.L),p.1 = q.1 → p = q:=by
      intro p hp q hq e
      obtain ⟨p',hp1,rfl⟩:=List.mem_map.1 hp
      obtain ⟨q',hq1,rfl⟩:=List.mem_map.1 hq
      rw [hwl_nd p' hp1 q' hq1 e]
    rw [lget_append,lget_dlb,lget_lupdN hwl_nd',lget_dlb]
    by_cases hk:∃ l ∈ keys o.L,τ l = k'
    · obtain ⟨l,hl,rfl⟩:=hk
      rw [hwl l hl,hrn l hl]
      cases hoc:lget o.L l with
      | none=>exact absurd (by rw [lget_dlb,hoc];rfl) (hmemo.2 hl)
      | some c=>
        cases hkp:keptI τ rl con.ls con.ot l with
        | true=>
          obtain ⟨c1,h1,h2⟩:=hkept l hl hkp
          rw [hoc] at h2;simp at h2
          have hlk:l ∈ keys con.ls:=by
            simp only [keptI,Bool.and_eq_true] at hkp
            have h3:=hkp.2
            split at h3
            · rename_i hls;have:(keys con.ls).elem l = true:=elemK.2 (by rw [hls];simp)
              simpa using this
            · simp at h3
          have h4:lget L (τ l) = some c1.pv:=hL _ _ (by rw [hL2get l hlk,lget_dlb,h1];rfl)
          simp [h4,h2]
        | false=>simp
    · have h1:lget (rnL τ o.L) k' = none:=by
        cases hc:lget (rnL τ o.L) k' with
        | none=>rfl
        | some c=>exact absurd (lget_rn_none (by rw [hc];simp)) hk
      have h2:lget (wlI τ rl con.ls con.ot o.L) k' = none:=by
        cases hc:lget (wlI τ rl con.ls con.ot o.L) k' with
        | none=>rfl
        | some c=>
          obtain ⟨l,h3,h4⟩:=lget_rn_none (L:=o.L.filter fun p=>!keptI τ rl con.ls con.ot p.1) (τ:=τ) (k:=k') (by unfold wlI at hc;rw [hc];simp)
          obtain ⟨p,hp,rfl⟩:=List.mem_map.1 h3
          exact absurd ⟨p.1,List.mem_map.2 ⟨p,(List.mem_filter.1 hp).1,rfl⟩,h4⟩ hk
      rw [h1,h2]
      simp
  have hook:o.ok:=by
    rw [← ho]
    refine app_ok hk1 v ⟨fun t x hx=>by simp [inS,lget] at hx,fun l c hl=>?_⟩
    exact mkL_okk hk2 (l,c) (mem_of_lget hl)
  have hwlok:wlOk (wlI τ rl con.ls con.ot o.L):=by
    intro p hp
    obtain ⟨⟨l,c⟩,hp1,rfl⟩:=List.mem_map.1 hp
    have h1:=hook.2 l c (nodupN_lget c11 (List.mem_filter.1 hp1).1)
    cases c with
    | gone=>trivial
    | ls t x=>trivial
    | cs ds=>exact rns_ok τ h1
  have hdirty:DirtyOK rl (wlI τ rl con.ls con.ot o.L) (dirtyI τ rl con.ls con.ot):=by
    intro p hp
    obtain ⟨⟨l,c⟩,hp1,rfl⟩:=List.mem_map.1 hp
    obtain ⟨hpm,hnk⟩:=List.mem_filter.1 hp1
    have hoc:=nodupN_lget c11 hpm
    have hlo:l ∈ keys o.L:=List.mem_map.2 ⟨_,hpm,rfl⟩
    simp only
    by_cases hlab:l ∈ keys con.ot.labs
    · left
      obtain ⟨q,hq,rfl⟩:=List.mem_map.1 hlab
      simp only [dirtyI,List.mem_append]
      exact .inl (.inl (.inl (List.mem_map.2 ⟨q,hq,rfl⟩)))
    · obtain ⟨c0,h1,cu,h2,h3⟩:=hbase l c hoc hlab
      cases hkl:con.ot.killL.elem l with
      | true=>
        left
        simp only [dirtyI,List.mem_append]
        exact .inl (.inr (List.mem_map.2 ⟨l,by simpa using hkl,rfl⟩))
      | false=>
        rw [hLeq] at h1
        obtain ⟨sh,h4,h5⟩:=hx1 _ h1
        simp only at h4 h5
        have hsh:=nodupN_lget c12 h4
        have hinx:∀ z,z ∈ inexact (τ l) sh (lget rl (τ l)) → z ∈ dirtyI τ rl con.ls con.ot:=by
          intro z hz
          simp only [dirtyI,List.mem_append]
          exact .inr (List.mem_flatMap.2 ⟨(l,sh),h4,hz⟩)
        cases sh with
        | ls t=>
          obtain ⟨y,h6,h7⟩:=h5
          have hnk':keptI τ rl con.ls con.ot l = false:=by simpa using hnk
          have hl1:(keys con.ot.labs).elem l = false:=by simpa using hlab
          simp only [keptI,hl1,hkl,hsh,Bool.not_false,Bool.true_and,Bool.and_eq_false_iff,Bool.not_eq_false'] at hnk'
          rcases hnk' with h8 | h8
          · -- a cell of a list: there is none
            left
            simp only [List.any_eq_true,decide_eq_true_eq] at h8
            obtain ⟨q,hq,rfl⟩:=h8
            exfalso
            have:=List.all_eq_true.1 hk3 q hq
            split at this
            · rename_i ss hss;rw [hsh] at hss;simp at hss
            · simp at this
          · left
            refine hinx _ ?_
            unfold inexact
            simp only
            cases hsl:lget rl (τ l) with
            | none=>simp
            | some c'=>
              cases c' with
              | gone=>simp
              | cs ds=>simp
              | ls t' x=>
                simp only
                rw [hsl] at h8
                simp only [lsSame,decide_eq_false_iff_not] at h8
                rw [if_neg h8];simp
        | cs ss=>
          obtain ⟨ds,es,h6,h7,h8,h9,h10⟩:=h5
          right
          subst h7
          have hcc:c = .cs (cupM cu l 0 es):=by rw [h3];simp only [cupL,hkl]
          subst hcc
          refine ⟨ds,DV.rns τ (cupM cu l 0 es),h6,rfl,by rw [rnsD_len,cupM_len,h8],fun i hi=>?_⟩
          rw [rnsD_get,cupM_get]
          cases hei:es[i]? with
          | none=>
            have:ds.length ≤ i:=by have:=List.getElem?_eq_none_iff.1 hei;omega
            rw [List.getElem?_eq_none this];rfl
          | some e0=>
            have hlt:i < ds.length:=by have:=(List.getElem?_eq_some_iff.1 hei).1;omega
            have hdi:=List.getElem?_eq_getElem hlt
            have hsi:ss[i]? = some (ss[i]'(by omega)):=List.getElem?_eq_getElem (by omega)
            have hex:exactD (ss[i]'(by omega)) ds[i] = true:=by
              refine inexact_mem (k:=τ l) (j:=0) (i:=i) (fun hm=>hi (hinx _ ?_)) hsi hdi
              unfold inexact
              simp only [h6]
              simpa using hm
            obtain ⟨e,h11,h12⟩:=h10 i _ _ hsi hdi hex
            rw [hei] at h11;simp at h11;subst h11
            simp only [Option.map_some,Nat.zero_add]
            rcases cupD_or cu l i e0 with ⟨h13,_⟩ | ⟨q,h13,h14,h15,_⟩
            · rw [h13,h12,hdi]
            · exfalso
              have hm:(q.1,q.2.1) ∈ cu.map (fun c=>(c.1,c.2.1)):=List.mem_map.2 ⟨q,h13,rfl⟩
              rw [h2] at hm
              obtain ⟨q',h16,h17⟩:=List.mem_map.1 hm
              simp at h17
              refine hi ?_
              simp only [dirtyI,List.mem_append]
              exact .inl (.inl (.inr (List.mem_map.2 ⟨q',h16,by rw [h17.1,h17.2,h14,h15]⟩)))
  have hA1:withinL (hasL L2) (DV.pvs xs ++ DV.pvs caps) = true:=by
    rw [hL2k,← pvs_append];exact labsL_within c3
  have hA2:∀ l cells,lget L2 l = some (some cells) → withinL (hasL L2) cells = true:=by
    intro l cells hl
    obtain ⟨q,hq,e⟩:=List.mem_map.1 (mem_of_lget hl)
    simp only [Prod.mk.injEq] at e
    obtain ⟨rfl,hc⟩:=e
    rw [hL2k]
    obtain ⟨c,cells',h1,h2,h3⟩:=hin q.1 (List.mem_map.2 ⟨q,hq,rfl⟩)
    rw [h1] at hc
    simp only at hc
    rw [h2] at hc;simp at hc;subst hc
    cases c with
    | gone=>simp [DC.pv] at h2
    | cs ds=>simp [DC.pv] at h2;subst h2;exact labsL_within h3
    | ls t x=>
      simp [DC.pv] at h2;subst h2
      simp only [dcLabsN,Bool.or_eq_true] at h3
      exact fl_withinN h3 _
  have hA3:∀ l,lget L2 l ≠ none → lget (dlb (rnL τ o.L)) l ≠ none:=by
    intro l hl
    have:hasL L2 l = true:=by simpa [hasL,Option.isSome_iff_ne_none] using hl
    rw [hL2k] at this
    simp only [List.elem_eq_mem,decide_eq_true_eq] at this
    obtain ⟨q,hq,rfl⟩:=List.mem_map.1 this
    have hl2:=hdom q hq
    rw [lget_dlb,hrn q hl2]
    cases hoc:lget o.L q with
    | none=>exact absurd (by rw [lget_dlb,hoc];rfl) (hmemo.2 hl2)
    | some c=>simp
  have hA4:∀ l y,lget (dlb (rnL τ o.L)) l = some y → lget L2 l = none → ∃ p ∈ dlb (wlI τ rl con.ls con.ot o.L),p.1 = l:=by
    intro l y hl hn
    have h1:lget (rnL τ o.L) l ≠ none:=fun e=>by rw [lget_dlb,e] at hl;simp at hl
    obtain ⟨q,hq,rfl⟩:=lget_rn_none h1
    have hnl:q ∉ keys con.ls:=fun hm=>by
      have:hasL L2 (τ q) = true:=by rw [hL2k];simp only [List.elem_eq_mem,decide_eq_true_eq];exact List.mem_map.2 ⟨q,hm,rfl⟩
      simp only [hasL,hn] at this;simp at this
    have hnk:keptI τ rl con.ls con.ot q = false:=by
      have:lget con.ls q = none:=by
        cases hc:lget con.ls q with
        | none=>rfl
        | some c=>exact absurd (by have:(keys con.ls).elem q = true:=elemK.2 (by rw [hc];simp)
                                   simpa using this) hnl
      simp only [keptI,this,Bool.and_false]
    obtain ⟨p,hp,rfl⟩:=List.mem_map.1 hq
    exact ⟨(τ p.1,(p.2.rn τ).pv),List.mem_map.2 ⟨(τ p.1,p.2.rn τ),List.mem_map.2 ⟨p,List.mem_filter.2 ⟨hp,by simp [hnk]⟩,rfl⟩,rfl⟩,rfl⟩
  have hcall:ACalls E con.f (DV.pvs xs ++ DV.pvs caps) L2 fun r L'=>r = ((resV o).rn τ).pv ∧ L' = dlb (rnL τ o.L):=by rw [← pvs_append,rn_pv];exact hR
  have hl2e:∀ {l:Nat},((keys con.ls).map τ).elem l = true → lget L2 l ≠ none:=fun {l} h=>by
    have:hasL L2 l = true:=by rw [hL2k];exact h
    simpa [hasL,Option.isSome_iff_ne_none] using this
  have hwc:∀ {L:Lb},(∀ l y,lget (dlb rl) l = some y → lget L l = some y) → (∀ p ∈ dlb (wlI τ rl con.ls con.ot o.L),lget (dlb rl) p.1 ≠ none ∨ lget L p.1 = none) →
      (∀ l y,lget L2 l = some y → lget L l = some y) ∧ ∀ p ∈ dlb (wlI τ rl con.ls con.ot o.L),lget L2 p.1 ≠ none ∨ lget L p.1 = none:=by
    intro L h2 h3
    refine ⟨fun l y hl=>h2 l y ?_,fun p hp=>?_⟩
    · rw [← hsub (l,y) (mem_of_lget hl)]
    · rcases h3 p hp with h4 | h4
      · left
        obtain ⟨p',hp1,rfl⟩:=List.mem_map.1 hp
        obtain ⟨⟨l,c⟩,hq1,rfl⟩:=List.mem_map.1 hp1
        have hl:l ∈ keys o.L:=List.mem_map.2 ⟨_,(List.mem_filter.1 hq1).1,rfl⟩
        have:=List.all_eq_true.1 c9 l hl
        simp only [Bool.or_eq_true,Bool.not_eq_true'] at this
        rcases this with h5 | h5
        · refine hl2e ?_
          simp only [List.elem_eq_mem,decide_eq_true_eq] at h5 ⊢;exact List.mem_map.2 ⟨l,h5,rfl⟩
        · exfalso
          simp only at h4
          rw [lget_dlb] at h4
          have:(keys rl).elem (τ l) = true:=elemK.2 fun e=>h4 (by rw [e];rfl)
          rw [this] at h5;simp at h5
      · exact .inr h4
  refine ⟨_,_,_,?_,rn_ok τ (resV_ok hook),hwlok,hdirty,h⟩
  cases wk with
  | false=>
    have hno:Kst L2:=by
      simp only [wkOK,Bool.or_eq_true,Bool.not_eq_true'] at c14
      rcases c14 with h | h
      · left
        cases hc:lget L2 flab with
        | none=>rfl
        | some y=>
          have:hasL L2 flab = true:=by simp [hasL,hc]
          rw [hL2k] at this
          simp only at this
          rw [this] at h;simp at h
      · exact .inr (hl2e h)
    have hA:AOp E ⟨d,.call ⟨.value fo,args,ts⟩,ty,pos,after,gg⟩ (dal ra) L2 ((resV o).rn τ).pv (dlb (wlI τ rl con.ls con.ot o.L)):=
      AOp_callG (caps:=DV.pvs caps) (xs:=DV.pvs xs) (LL:=dlb (rnL τ o.L)) hE hf' hx' con.run hcall hA1 hA2 hA3 hA4 hstate hno
    intro A w σ al L a r h1 h2 h3
    obtain ⟨k1,k2⟩:=hwc h2 h3
    exact hA A w σ al L a r h1 k1 k2
  | true=>
    have hA:AOpW E ⟨d,.call ⟨.value fo,args,ts⟩,ty,pos,after,gg⟩ (dal ra) L2 ((resV o).rn τ).pv (dlb (wlI τ rl con.ls con.ot o.L)):=
      AOp_callW (caps:=DV.pvs caps) (xs:=DV.pvs xs) (LL:=dlb (rnL τ o.L)) hE hf' hx' con.run hcall hA1 hA2 hA3 hA4 hstate
    intro A w σ al L a r h1 h2 h3 h4
    obtain ⟨k1,k2⟩:=hwc h2 h3
    refine hA A w σ al L a r h1 k1 k2 fun l cells hl hL=>?_
    cases hr:lget rl l with
    | none=>exact h4 l cells (by rw [lget_dlb,hr];rfl) hL
    | some c=>
      have e1:=h2 l c.pv (by rw [lget_dlb,hr];rfl)
      rw [hL] at e1
      simp only [wkOK] at c14
      have:=List.all_eq_true.1 c14 (l,c) (mem_of_lget hr)
      simp only [Bool.or_eq_true] at this
      rcases this with h5 | h5
      · exact absurd hl (hl2e h5)
      · exact dcNoF_ok h5 (by simpa using e1.symm)
def dCallO {E:Env} (wk:Bool) (G:GTab) (con:Option (ICon E)) (o:Oper) (al:DAl) (L:DLb) (nl:Nat) {R:Type} (k:DV → DLb → DL → Option R):Option R:=match o.op with
  | .call ⟨.value fo,args,_⟩=>match dev G al fo with
    | some (.fn f caps)=>match devs G al args.toList with
      | some xs=>match con with
        | some con=>dCallI wk L nl con f (xs ++ caps) k
        | none=>none
      | none=>none
    | _=>none
  | _=>none
theorem dCallO_ok {wk:Bool} (hG:E.G = gtPV G) (hE:GOK E) (hal:alOk ra) (hrl:lbOk rl) {con:Option (ICon E)} {o:Oper} {nl:Nat} (h:dCallO wk G con o ra rl nl k = some r):OpB wk E o ra rl k r:=by
  obtain ⟨dst,op,ty,pos,after,g⟩:=o
  unfold dCallO at h
  simp only at h
  split at h
  · split at h
    · rename_i hf
      split at h
      · rename_i hx
        split at h
        · exact dCallI_ok hG hE hal hrl hf hx h
        · simp at h
      · simp at h
    · simp at h
  · simp at h
/-- The contracts at hand. -/
structure CT (E:Env) where
  p:Nat → Option (PCon E)
  i:Nat → Option (ICon E)
def dOpX (E:Env) (G:GTab) (C:CT E) (oh:OH) (o:Oper) (al:DAl) (L:DLb) (nl:Nat) {R:Type} (k:DV → DLb → DL → Option R):Option R:=match oh.io with
  | none=>dOp E G C.p oh o al L nl k
  | some j=>dCallO false G (C.i j) o al L nl k
theorem dOpX_ok (hG:E.G = gtPV G) (hE:GOK E) {C:CT E} {oh:OH} {o:Oper} {nl:Nat} (hal:alOk ra) (hrl:lbOk rl) (hn:lget rl nl = none) (h:dOpX E G C oh o ra rl nl k = some r):OpS E o ra rl k r:=by
  unfold dOpX at h
  split at h
  · exact dOp_ok hG hE hal hrl hn h
  · exact dCallO_ok hG hE hal hrl h
end
end Go.SH
namespace Go.SH
theorem freeze_val {w:World} {σ:Sig} {A:Nat → Prop} {L:Lb} (hb:BR w σ A L) {l off n sz:Nat} {co:Option Nat} {cells part:List PV} (hl:lget L l = some (some cells)) (hp:(cells.drop off).take (n * sz) = part) (hin:off + n * sz ≤ cells.length)
    (hpure:withinL (fun _=>false) part = true) {v:Value} (h:VR w σ (avo A σ L) (.rw l off n sz co) v):VR w σ (avo A σ (lset L l none)) (.ro part n none) v:=by
  have hav:∀ β,avOf σ (lset L l none) β → avOf σ L β:=by
    rintro β (⟨k,d,a,s,hk,hs⟩ | h)
    · rw [lget_lset] at hk
      split at hk
      · simp at hk
      · exact .inl ⟨k,d,a,s,hk,hs⟩
    · exact .inr h
  have h1:∀ β,¬ avo A σ L β → ¬ avo A σ (lset L l none) β:=fun β hn h=>hn (h.imp id (hav β))
  cases h with
  | rwE a hc=>
    have:part = []:=by rw [← hp];simp
    subst this
    exact .roE a 0 (by simp)
  | @rw _ _ _ _ _ β add size cap hs hn hc hsz=>
    rcases hb.all l cells hl with ⟨h3,h4⟩ | ⟨β',add',size',c,T,fr,hB⟩
    · rw [hs] at h3;simp at h3
    · have:=hB.sig;rw [hs] at this;simp at this
      obtain ⟨rfl,rfl,rfl⟩:=this
      have hlen:part.length = n * sz:=by rw [← hp];simp;omega
      have hlt:β < w.heap.size:=(Array.getElem?_eq_some_iff.1 hB.heap).1
      have hna:¬ avo A σ (lset L l none) β:=by
        rintro (hA | ⟨k,d,a,s,hk,hks⟩ | ⟨q,ad,hq⟩)
        rotate_left 2
        · exact (hb.fr.fam q β ad hq).2 ⟨l,cells,add,size,hl,hs⟩
        · exact (hb.lo β hA).2 (.inl ⟨l,cells,add,size,hl,hs⟩)
        · rw [lget_lset] at hk
          split at hk
          · simp at hk
          · rename_i hne;exact hne (hb.inj l k cells d β add size a s hl hk hs hks)
      have get:∀ i x,part[i]? = some x → cells[off + i]? = some x:=by
        intro i x hx
        rw [← hp,List.getElem?_take] at hx
        split at hx
        · rw [List.getElem?_drop] at hx;exact hx
        · simp at hx
      let f:Nat → Value:=fun i=>(c[add + off + i]?).getD undef
      refine .ro ((List.range (n * sz)).map f) ⟨hlt,hna,fun i v hv=>?_⟩ (by simp [hlen]) (fun i x v hx hv=>?_) hn (by simp)
      · have hi:i < n * sz:=by have:=(List.getElem?_eq_some_iff.1 hv).1;simpa using this
        have hi2:i < part.length:=by omega
        obtain ⟨u,h5,h6⟩:=hB.vals _ _ (get i _ (List.getElem?_eq_getElem hi2))
        rw [cell_of_heap hB.heap]
        rw [← Nat.add_assoc] at h5
        simp [List.getElem?_range hi,f,h5] at hv
        rw [h5,hv]
      · have hi:i < n * sz:=by have:=(List.getElem?_eq_some_iff.1 hv).1;simpa using this
        obtain ⟨u,h5,h6⟩:=hB.vals _ _ (get i x hx)
        rw [← Nat.add_assoc] at h5
        simp [List.getElem?_range hi,f,h5] at hv
        rw [← hv]
        exact h6.pure (withinL_get hpure hx) h1
theorem Weak.frz {E:Env} {K:Nat → Prop} {al:Al} {L:Lb} {lab:Nat} {cells:List PV} (hl:lget L lab = some (some cells)) {t off n sz:Nat} {co:Option Nat} (ht:lget al t = some (.rw lab off n sz co)) {part ys:List PV}
    (hp:(cells.drop off).take (n * sz) = part) (hin:off + n * sz ≤ cells.length) (hpu:withinL (fun _=>false) part = true) (hle:CLe part ys):Weak E K al L ((t,.ro ys n none) :: al) (lset L lab none):=by
  intro A w σ a r
  obtain ⟨hb,hg⟩:=r.blocks.drop lab
  have r':=r.grow hb hg
  refine ⟨σ,⟨fun u x hx=>?_,hb,r'.globals,r'.nodefer⟩,hg.weaken fun _ _=>trivial⟩
  rw [lget] at hx
  split at hx
  · rename_i e;subst e;simp at hx;subst hx
    obtain ⟨v,h1,h2⟩:=r.tmps t _ ht
    exact ⟨v,h1,PLe.ro hle _ _ _ _ (freeze_val r.blocks hl hp hin hpu h2)⟩
  · exact r'.tmps u x hx
def dFz {R:Type}:List (Nat × ET) → St → (St → Option R) → Option R
  | [],s,k=>k s
  | (t,e) :: r,s,k=>match lget s.al t with
    | some (.rw lab sz off n co w)=>if pureAt s.L lab = true then srcL s.L e (.rw lab sz off n co w) fun l=>
        dFz r { al:=(t,.sl e l) :: s.al,L:=lset s.L lab .gone,ds:=t :: s.ds,dl:=(lab,none) :: s.dl } k else none
    | some _=>dFz r s k
    | none=>none
section
variable {E:Env} {K:Nat → Prop} {n:Nat} {Q:Exit → Al → Lb → Prop} {ops:Array Oper} {rest:List Oper} {R:Type} {r:R}
theorem dFz_ok:∀ {fz:List (Nat × ET)} {s:St} {k:St → Option R},dFz fz s k = some r → s.ok → ∃ s',Up s s' ∧ s'.ok ∧ k s' = some r ∧ Weak E K (dal s.al) (dlb s.L) (dal s'.al) (dlb s'.L)
  | [],s,k,h,hs=>⟨s,.refl s,hs,h,.refl⟩
  | (t,e) :: fz,s,k,h,hs=>by
    simp only [dFz] at h
    split at h
    · rename_i lab sz off n co w ht
      split at h
      · rename_i hp
        obtain ⟨l,cells,hc,h'⟩:=srcL_ok h
        clear h
        obtain ⟨cc,c1,c2,c3,c4,c5⟩:=hc.rw _ _ _ _ _ _ rfl
        subst c5;subst c3
        have hu:Up s { al:=(t,.sl e l) :: s.al,L:=lset s.L lab .gone,ds:=t :: s.ds,dl:=(lab,none) :: s.dl }:=by
          have h1:=wr_up (s:=s) (wl:=[(lab,.gone)]) (dl:=[(lab,none)]) (fun p hp=>by simp at hp;subst hp;exact .inl (by simp))
          exact h1.trans (set_up _ (some t) (.sl e l))
        have ho:St.ok { al:=(t,.sl e l) :: s.al,L:=lset s.L lab .gone,ds:=t :: s.ds,dl:=(lab,none) :: s.dl }:=by
          have h1:=wr_ok hs (wl:=[(lab,.gone)]) (dl:=[(lab,none)]) (fun p hp=>by simp at hp;subst hp;trivial)
          exact set_ok h1 (d:=some t) (x:=.sl e l) trivial
        have hw:Weak E K (dal s.al) (dlb s.L) (dal ((t,.sl e l) :: s.al)) (dlb (lset s.L lab .gone)):=by
          have e1:dlb (lset s.L lab .gone) = lset (dlb s.L) lab none:=(lset_map DC.pv s.L lab .gone).symm
          rw [e1]
          refine Weak.frz c1 (off:=off * e.sz) (sz:=e.sz) (n:=l.length) (co:=co) (by rw [lget_dal,ht];rfl) c4 c2 ?_ hc.le
          rw [← c4]
          unfold pureAt at hp
          split at hp
          · rename_i c hcc
            rw [lget_dlb,hcc] at c1
            exact part_pure (dcPure_ok hp (by simpa using c1)) _ _
          · simp at hp
        obtain ⟨s',u',o',k',w'⟩:=dFz_ok h' ho
        exact ⟨s',hu.trans u',o',k',hw.trans w'⟩
      · simp at h
    · exact dFz_ok h hs
    · simp at h
/-- Nothing of a family. -/
def okF (d:DV):Bool:=d.labs noF && d.noF
def St.dropF (s:St):St:=
  let ts:=(s.al.filter fun p=>!okF p.2).map (·.1)
  { s with al:=ded ts s.al,ds:=ts ++ s.ds }
theorem dropF_mem {s:St} {p:Nat × DV} (h:p ∈ s.dropF.al):lget s.al p.1 = some p.2 ∧ okF p.2 = true:=by
  obtain ⟨h1,h2⟩:=ded_mem h
  refine ⟨h2,?_⟩
  cases hk:okF p.2 with
  | true=>rfl
  | false=>exact absurd (List.mem_map.2 ⟨(p.1,p.2),List.mem_filter.2 ⟨mem_of_lget h2,by simp [hk]⟩,rfl⟩) h1
theorem dropF_up (s:St):Up s s.dropF:=fun b h=>⟨fun t ht=>by
  simp only [St.dropF,List.mem_append,not_or] at ht ⊢
  rw [ded_get ht.1];exact h.sl t ht.2,h.lb,h.ce⟩
theorem dropF_ok {s:St} (h:s.ok):s.dropF.ok:=⟨fun t x hx=>h.1 t x (dropF_mem (mem_of_lget hx)).1,h.2⟩
theorem dropF_noF (s:St) (t:Nat) (x:PV) (hx:lget (dal s.dropF.al) t = some x):within noF x = true:=by
  rw [lget_dal] at hx
  cases hd:lget s.dropF.al t with
  | none=>rw [hd] at hx;simp at hx
  | some d=>
    rw [hd] at hx;simp at hx;subst hx
    have:=(dropF_mem (mem_of_lget hd)).2
    simp only [okF,Bool.and_eq_true] at this
    exact labs_withinN this.1 (.inl this.2)
theorem dropF_weak (s:St):Weak E K (dal s.al) (dlb s.L) (dal s.dropF.al) (dlb s.dropF.L):=Weak.sub fun p hp=>by
  obtain ⟨q,hq,rfl⟩:=List.mem_map.1 hp
  simp only;rw [lget_dal,(dropF_mem hq).1];rfl
/-- The two families trade places. -/
def sq:Nat → Nat
  | 1=>2
  | 2=>1
  | n=>n
theorem sq_sq (n:Nat):sq (sq n) = n:=by
  match n with
  | 0=>rfl
  | 1=>rfl
  | 2=>rfl
  | n + 3=>rfl
/-- A cell where the families trade places. -/
def SwC (x y:PV):Prop:=(x = y ∧ within noF x = true) ∨ ∃ q c n co,x = .fs q c n co ∧ withinL (fun _=>false) c = true ∧ y = .fs (sq q) c n co
theorem VR.sw {w:World} {σ:Sig} {av:Nat → Prop} {x y:PV} {v:Value} (h:VR w σ av x v) (hs:SwC x y):VR w ⟨σ.lab,fun q β add=>σ.fam (sq q) β add⟩ av y v:=by
  rcases hs with ⟨rfl,hn⟩ | ⟨q,c,n,co,rfl,hc,rfl⟩
  · exact h.monoN hn (fun _ _ _ h=>h) (Nat.le_refl _) fun _ _ h=>⟨h,rfl⟩
  · cases h with
    | fsE a cap hc=>exact .fsE a cap hc
    | fs hf hh hfr hl hv hn hc' hz=>exact .fs (by simpa [sq_sq] using hf) hh hfr hl (fun i x v hx hv'=>(hv i x v hx hv').pure (withinL_get hc hx) fun _ h=>h) hn hc' hz
theorem Weak.recol {al:Al} {L L':Lb} (hal:∀ t x,lget al t = some x → within noF x = true) (hK:¬ K fkeep) (hG:GOK E)
    (hL:∀ l,(lget L l = none ∧ lget L' l = none) ∨ (lget L l = some none ∧ lget L' l = some none) ∨ ∃ xs ys,lget L l = some (some xs) ∧ lget L' l = some (some ys) ∧ xs.length = ys.length ∧ ∀ (i:Nat) (x y:PV),xs[i]? = some x → ys[i]? = some y → SwC x y):Weak E K al L al L':=by
  intro A w σ a r
  let σ':Sig:=⟨σ.lab,fun q β add=>σ.fam (sq q) β add⟩
  have hlav:∀ β,labOf σ' L' β ↔ labOf σ L β:=by
    intro β
    constructor
    · rintro ⟨l,c,a,s,h1,h2⟩
      rcases hL l with ⟨_,h⟩ | ⟨_,h⟩ | ⟨xs,ys,h,h',_⟩
      · rw [h] at h1;simp at h1
      · rw [h] at h1;simp at h1
      · exact ⟨l,xs,a,s,h,h2⟩
    · rintro ⟨l,c,a,s,h1,h2⟩
      rcases hL l with ⟨h,_⟩ | ⟨h,_⟩ | ⟨xs,ys,h,h',_⟩
      · rw [h] at h1;simp at h1
      · rw [h] at h1;simp at h1
      · exact ⟨l,ys,a,s,h',h2⟩
  have hfm:∀ β,famOf σ' β ↔ famOf σ β:=fun β=>⟨fun ⟨q,ad,h⟩=>⟨sq q,ad,h⟩,fun ⟨q,ad,h⟩=>⟨sq q,ad,by show σ.fam (sq (sq q)) β ad;rw [sq_sq];exact h⟩⟩
  have hav:∀ β,avOf σ' L' β ↔ avOf σ L β:=fun β=>or_congr (hlav β) (hfm β)
  have havo:avo A σ' L' = avo A σ L:=by
    funext β
    show (A β ∨ avOf σ' L' β) = (A β ∨ avOf σ L β)
    rw [propext (hav β)]
  have hsw:∀ {x y v},VR w σ (avo A σ L) x v → SwC x y → VR w σ' (avo A σ' L') y v:=fun h hs=>by rw [havo];exact h.sw hs
  refine ⟨σ',⟨fun t x hx=>let ⟨v,h1,h2⟩:=r.tmps t x hx;⟨v,h1,hsw h2 (.inl ⟨rfl,hal t x hx⟩)⟩,⟨?_,?_,?_,?_,?_⟩,fun g cells hg=>hsw (r.globals g cells hg) (.inl ⟨rfl,within_false (by simp [pureV,within,hG g cells hg])⟩),r.nodefer⟩,
    ⟨Nat.le_refl _,fun _ _ _ h=>h,fun β _ hn=>⟨fun h=>hn ((hav β).1 h),rfl⟩,⟨rfl,rfl,rfl⟩,fun k=>absurd k hK⟩⟩
  · intro l ys hl
    rcases hL l with ⟨_,h⟩ | ⟨_,h⟩ | ⟨xs,ys',h1,h2,h3,h4⟩
    · rw [h] at hl;simp at hl
    · rw [h] at hl;simp at hl
    · rw [h2] at hl;simp at hl;subst hl
      rcases r.blocks.all l xs h1 with ⟨h5,h6⟩ | ⟨β,add,size,c,T,fr,hB⟩
      · exact .inl ⟨h5,by subst h6;exact List.eq_nil_of_length_eq_zero h3.symm⟩
      · refine .inr ⟨β,add,size,c,T,fr,⟨hB.sig,hB.heap,hB.hsz,h3 ▸ hB.fits,fun i y hy=>?_,hB.frs⟩⟩
        have hi:i < xs.length:=by rw [h3];exact (List.getElem?_eq_some_iff.1 hy).1
        obtain ⟨v,h7,h8⟩:=hB.vals i _ (List.getElem?_eq_getElem hi)
        exact ⟨v,h7,hsw h8 (h4 i _ y (List.getElem?_eq_getElem hi) hy)⟩
  · intro l l' c c' β a s a' s' h1 h2 h3 h4
    rcases hL l with ⟨_,h5⟩ | ⟨_,h5⟩ | ⟨xs,_,h5,_⟩
    · rw [h5] at h1;simp at h1
    · rw [h5] at h1;simp at h1
    · rcases hL l' with ⟨_,h6⟩ | ⟨_,h6⟩ | ⟨xs',_,h6,_⟩
      · rw [h6] at h2;simp at h2
      · rw [h6] at h2;simp at h2
      · exact r.blocks.inj l l' xs xs' β a s a' s' h5 h6 h3 h4
  · intro l x hx
    have:=r.blocks.dom l x hx
    rcases hL l with ⟨h,_⟩ | ⟨_,h⟩ | ⟨_,_,_,h,_⟩
    · exact absurd h this
    · rw [h];simp
    · rw [h];simp
  · intro β hA
    exact ⟨(r.blocks.lo β hA).1,fun h=>(r.blocks.lo β hA).2 ((hav β).1 h)⟩
  · refine ⟨fun q β add h=>⟨(r.blocks.fr.fam _ β add h).1,fun k=>(r.blocks.fr.fam _ β add h).2 ((hlav β).1 k)⟩,fun q β add h=>r.blocks.fr.cel _ β add h,fun q q' β add add' h h'=>?_⟩
    obtain ⟨e1,e2⟩:=r.blocks.fr.one _ _ β add add' h h'
    refine ⟨?_,e2⟩
    have:=congrArg sq e1
    simpa [sq_sq] using this
/-- A list of a family's slices where the families trade places. -/
def famQ:(t:ET) → List t.T → Option DC
  | .tf q t,x=>if t.noF = true then some (.ls (.tf (sq q) t) x) else none
  | _,_=>none
def swW (L:DLb):DLb → Option DLb
  | []=>some []
  | (l,_) :: r=>match lget L l with
    | some (.ls t x)=>match famQ t x with
      | some c=>match swW L r with
        | some wl=>some ((l,c) :: wl)
        | none=>none
      | none=>if t.noF = true then swW L r else none
    | some c=>if dcNoF c = true then swW L r else none
    | none=>swW L r
/-- How a label's cells are told behind it. -/
def SwD (c c':DC):Prop:=(c = c' ∧ dcNoF c = true) ∨ ∃ t x,c = .ls t x ∧ famQ t x = some c'
theorem swW_ok {L:DLb}:∀ {r wl:DLb},swW L r = some wl → (∀ p ∈ wl,∃ c,lget L p.1 = some c ∧ SwD c p.2) ∧ ∀ p ∈ r,p.1 ∈ keys wl ∨ ∀ c,lget L p.1 = some c → dcNoF c = true
  | [],wl,h=>by simp [swW] at h;subst h;simp
  | (l,_) :: r,wl,h=>by
    simp only [swW] at h
    split at h
    · rename_i t x hl
      split at h
      · rename_i c hc
        split at h
        · rename_i wl' hw
          simp at h;subst h
          obtain ⟨h1,h2⟩:=swW_ok hw
          refine ⟨fun p hp=>?_,fun p hp=>?_⟩
          · rcases List.mem_cons.1 hp with rfl | hp
            · exact ⟨_,hl,.inr ⟨t,x,rfl,hc⟩⟩
            · exact h1 p hp
          · rcases List.mem_cons.1 hp with rfl | hp
            · exact .inl (by simp [keys])
            · exact (h2 p hp).imp (fun h=>by simp only [keys,List.map_cons,List.mem_cons];exact .inr h) id
        · simp at h
      · split at h
        · rename_i ht
          obtain ⟨h1,h2⟩:=swW_ok h
          refine ⟨h1,fun p hp=>?_⟩
          rcases List.mem_cons.1 hp with rfl | hp
          · exact .inr fun c hc=>by simp only at hc;rw [hl] at hc;simp at hc;subst hc;exact ht
          · exact h2 p hp
        · simp at h
    · rename_i c hcn hl
      split at h
      · rename_i hd
        obtain ⟨h1,h2⟩:=swW_ok h
        refine ⟨h1,fun p hp=>?_⟩
        rcases List.mem_cons.1 hp with rfl | hp
        · exact .inr fun c hc=>by simp only at hc;rw [hl] at hc;simp at hc;subst hc;exact hd
        · exact h2 p hp
      · simp at h
    · rename_i hl
      obtain ⟨h1,h2⟩:=swW_ok h
      refine ⟨h1,fun p hp=>?_⟩
      rcases List.mem_cons.1 hp with rfl | hp
      · exact .inr fun c hc=>by simp only at hc;rw [hl] at hc;simp at hc
      · exact h2 p hp
theorem swD_cells {c c':DC} (h:SwD c c'):(c.pv = none ∧ c'.pv = none) ∨ ∃ xs ys,c.pv = some xs ∧ c'.pv = some ys ∧ xs.length = ys.length ∧ ∀ (i:Nat) (x y:PV),xs[i]? = some x → ys[i]? = some y → SwC x y:=by
  rcases h with ⟨rfl,h⟩ | ⟨t,x,rfl,h⟩
  · cases hc:c.pv with
    | none=>exact .inl ⟨rfl,rfl⟩
    | some xs=>exact .inr ⟨xs,xs,rfl,rfl,rfl,fun i x y hx hy=>.inl ⟨by rw [hx] at hy;simpa using hy,withinL_get (dcNoF_ok h hc) hx⟩⟩
  · right
    unfold famQ at h
    split at h
    · rename_i q t x
      split at h
      · rename_i ht
        simp at h;subst h
        refine ⟨_,_,rfl,rfl,?_,fun i a b ha hb=>?_⟩
        · rw [fl_length,fl_length,el_sz,el_sz];rfl
        · have e1:∀ q (l:List (List t.T)),fl (el (.tf q t)) l = l.map fun x=>PV.fs q (fl (el t) x) x.length none:=fun q l=>by
            induction l with
            | nil=>rfl
            | cons x l ih=>rw [fl_cons,ih];rfl
          rw [e1] at ha hb
          simp only [List.getElem?_map,Option.map_eq_some_iff] at ha hb
          obtain ⟨z,hz,rfl⟩:=ha
          obtain ⟨z',hz',rfl⟩:=hb
          have hz2:(x:List (List t.T))[i]? = some z':=hz'
          rw [hz] at hz2;simp at hz2;subst hz2
          exact .inr ⟨_,_,_,_,rfl,fl_noF ht z,rfl⟩
      · simp at h
    · simp at h
theorem swW_weak {s:St} {wl:DLb} (h:swW s.L s.L = some wl) (hal:∀ t x,lget (dal s.al) t = some x → within noF x = true) (hK:¬ K fkeep) (hG:GOK E) :
    Weak E K (dal s.al) (dlb s.L) (dal s.al) (dlb (lupd s.L wl)):=by
  obtain ⟨h1,h2⟩:=swW_ok h
  refine Weak.recol hal hK hG fun l=>?_
  rw [lget_dlb,lget_dlb]
  have key:∀ {c c'},lget s.L l = some c → lget (lupd s.L wl) l = some c' → SwD c c' → (Option.map DC.pv (lget s.L l) = none ∧ Option.map DC.pv (lget (lupd s.L wl) l) = none) ∨ (Option.map DC.pv (lget s.L l) = some none ∧ Option.map DC.pv (lget (lupd s.L wl) l) = some none) ∨ ∃ xs ys,Option.map DC.pv (lget s.L l) = some (some xs) ∧ Option.map DC.pv (lget (lupd s.L wl) l) = some (some ys) ∧ xs.length = ys.length ∧ ∀ (i:Nat) (x y:PV),xs[i]? = some x → ys[i]? = some y → SwC x y:=by
    intro c c' e1 e2 hs
    rw [e1,e2]
    rcases swD_cells hs with ⟨h3,h4⟩ | ⟨xs,ys,h3,h4,h5,h6⟩
    · exact .inr (.inl ⟨by simp [h3],by simp [h4]⟩)
    · exact .inr (.inr ⟨xs,ys,by simp [h3],by simp [h4],h5,h6⟩)
  rcases lget_lupdG wl s.L l with ⟨p,hp,rfl,h3⟩ | ⟨h3,h4⟩
  · obtain ⟨c,h5,h6⟩:=h1 p hp
    exact key h5 h3 h6
  · cases hc:lget s.L l with
    | none=>exact .inl ⟨rfl,by rw [h4,hc];rfl⟩
    | some c=>
      rw [hc] at key h4
      refine key rfl h4 (.inl ⟨rfl,?_⟩)
      rcases h2 (l,c) (mem_of_lget hc) with h5 | h5
      · obtain ⟨p,hp,e⟩:=List.mem_map.1 h5
        exact absurd e (h3 p hp)
      · exact h5 c hc
def St.swF {R:Type} (s:St) (k:St → Option R):Option R:=match swW s.dropF.L s.dropF.L with
  | some wl=>k (s.dropF.wr wl (wl.map fun p=>(p.1,none)))
  | none=>none
theorem swF_ok {s:St} {k:St → Option R} (hK:¬ K fkeep) (hG:GOK E) (h:s.swF k = some r) (hs:s.ok):∃ s',Up s s' ∧ s'.ok ∧ k s' = some r ∧ Weak E K (dal s.al) (dlb s.L) (dal s'.al) (dlb s'.L):=by
  unfold St.swF at h
  split at h
  · rename_i wl hw
    refine ⟨_,(dropF_up s).trans (wr_up fun p hp=>.inl (List.mem_map.2 ⟨p,hp,rfl⟩)),wr_ok (dropF_ok hs) fun p hp=>?_,h,(dropF_weak s).trans (swW_weak hw (dropF_noF s) hK hG)⟩
    obtain ⟨c,h1,h2⟩:=(swW_ok hw).1 p hp
    rcases h2 with ⟨rfl,_⟩ | ⟨t,x,rfl,h2⟩
    · exact (dropF_ok hs).2 _ _ h1
    · unfold famQ at h2
      split at h2
      · split at h2
        · simp at h2;rw [← h2];trivial
        · simp at h2
      · simp at h2
  · simp at h
def dFzO:List (Nat × ET) → DAl → DLb → DLb → (DAl → DLb → DLb → Option R) → Option R
  | [],al,L,wl,k=>k al L wl
  | (t,e) :: r,al,L,wl,k=>match lget al t with
    | some (.rw lab sz off n co w)=>if pureAt L lab = true then srcL L e (.rw lab sz off n co w) fun l=>dFzO r ((t,.sl e l) :: al) (lset L lab .gone) (wl ++ [(lab,.gone)]) k else none
    | some _=>dFzO r al L wl k
    | none=>none
def SubA (a b:Al):Prop:=∀ t y,lget a t = some y → lget b t = some y
def SubB (a b:Lb):Prop:=∀ l y,lget a l = some y → lget b l = some y
theorem dFzO_ok:∀ {fz:List (Nat × ET)} {al:DAl} {L wl:DLb} {k:DAl → DLb → DLb → Option R},dFzO fz al L wl k = some r → alOk al → lbOk L → ∃ al' L' w0,k al' L' (wl ++ w0) = some r ∧ alOk al' ∧ lbOk L' ∧ (∀ p ∈ w0,p.2 = .gone ∧ lget L p.1 ≠ none) ∧
    (∀ l,lget L' l ≠ none ↔ lget L l ≠ none) ∧ (∀ l cs,lget L' l = some (.cs cs) → lget L l = some (.cs cs)) ∧
    ∀ A w σ alw Lw a,Rel E A w σ alw Lw a → SubA (dal al) alw → SubB (dlb L) Lw → ∃ alw' σ',Rel E A w σ' alw' (lupd Lw (dlb w0)) a ∧ SubA (dal al') alw' ∧ SubB (dlb L') (lupd Lw (dlb w0)) ∧ Grow top w σ Lw w σ' (lupd Lw (dlb w0))
  | [],al,L,wl,k,h,ha,hl=>⟨al,L,[],by simpa [dFzO] using h,ha,hl,by simp,fun _=>Iff.rfl,fun _ _ h=>h,fun A w σ alw Lw a r h1 h2=>⟨alw,σ,r,h1,h2,Grow.refl _ _ _ _⟩⟩
  | (t,e) :: fz,al,L,wl,k,h,ha,hl=>by
    simp only [dFzO] at h
    split at h
    · rename_i lab sz off n co w ht
      split at h
      · rename_i hp
        obtain ⟨l,cells,hc,h'⟩:=srcL_ok h
        obtain ⟨cc,c1,c2,c3,c4,c5⟩:=hc.rw _ _ _ _ _ _ rfl
        subst c5;subst c3
        have hex:lget L lab ≠ none:=fun e=>by rw [lget_dlb,e] at c1;simp at c1
        obtain ⟨al',L',w0,k1,k2,k3,k4,k5,k6,k7⟩:=dFzO_ok h' (fun u x hx=>by
          simp only [lget] at hx
          split at hx
          · simp at hx;subst hx;trivial
          · exact ha u x hx) (fun u c hc=>by
          rw [lget_lset] at hc
          split at hc
          · simp at hc;subst hc;trivial
          · exact hl u c hc)
        refine ⟨al',L',(lab,.gone) :: w0,by simpa using k1,k2,k3,fun p hp=>?_,fun l'=>?_,fun l' cs hcs=>?_,fun A w σ alw Lw a r h1 h2=>?_⟩
        · rcases List.mem_cons.1 hp with rfl | hp
          · exact ⟨rfl,hex⟩
          · obtain ⟨e1,e2⟩:=k4 p hp
            refine ⟨e1,?_⟩
            rw [lget_lset] at e2
            split at e2
            · rename_i e;rw [← e];exact hex
            · exact e2
        · rw [k5 l',lget_lset]
          split
          · rename_i e;subst e;simp [hex]
          · rfl
        · have:=k6 l' cs hcs
          rw [lget_lset] at this
          split at this
          · simp at this
          · exact this
        · have hw:=Weak.frz (E:=E) (K:=top) (al:=alw) (L:=Lw) (h2 _ _ c1) (off:=off * e.sz) (sz:=e.sz) (n:=l.length) (co:=co) (h1 _ _ (by rw [lget_dal,ht];rfl)) c4 c2 (by
            rw [← c4]
            unfold pureAt at hp
            split at hp
            · rename_i c hcc
              rw [lget_dlb,hcc] at c1
              exact part_pure (dcPure_ok hp (by simpa using c1)) _ _
            · simp at hp) hc.le
          obtain ⟨σ1,r1,g1⟩:=hw A w σ a r
          obtain ⟨alw',σ2,r2,s1,s2,g2⟩:=k7 A w σ1 _ _ a r1 (fun u y hy=>by
            rw [lget_dal] at hy
            simp only [lget] at hy ⊢
            split
            · rename_i e;rw [if_pos e] at hy;simp at hy;rw [← hy];rfl
            · rename_i e;rw [if_neg e] at hy;exact h1 u y (by rw [lget_dal];exact hy)) (fun u y hy=>by
            rw [lget_dlb,lget_lset] at hy
            rw [lget_lset]
            split
            · rename_i e;rw [if_pos e] at hy;simpa [DC.pv] using hy
            · rename_i e;rw [if_neg e] at hy;exact h2 u y (by rw [lget_dlb];exact hy))
          exact ⟨alw',σ2,r2,s1,s2,g1.trans g2⟩
      · simp at h
    · exact dFzO_ok h ha hl
    · simp at h
def dOpF (E:Env) (G:GTab) (C:CT E) (oh:OH) (o:Oper) (al:DAl) (L:DLb) (nl:Nat) (k:DV → DLb → DL → Option R):Option R:=match oh.fz with
  | []=>dOpX E G C oh o al L nl k
  | fz=>dFzO fz al L [] fun al' L' w0=>dOpX E G C oh o al' L' nl fun x wl dl=>k x (w0 ++ wl) (w0.map (fun p=>(p.1,none)) ++ dl)
theorem dOpF_ok {G:GTab} (hG:E.G = gtPV G) (hE:GOK E) {C:CT E} {oh:OH} {o:Oper} {nl:Nat} {ra:DAl} {rl:DLb} {k:DV → DLb → DL → Option R} (hal:alOk ra) (hrl:lbOk rl) (hn:lget rl nl = none) (h:dOpF E G C oh o ra rl nl k = some r):OpS E o ra rl k r:=by
  unfold dOpF at h
  split at h
  · exact dOpX_ok hG hE hal hrl hn h
  · obtain ⟨al',L',w0,k1,k2,k3,k4,k5,k6,k7⟩:=dFzO_ok (E:=E) h hal hrl
    have hn':lget L' nl = none:=by
      cases hc:lget L' nl with
      | none=>rfl
      | some c=>exact absurd hn ((k5 nl).1 (by rw [hc];simp))
    obtain ⟨x,wl,dl,hA,hx,hwl,hd,hk⟩:=dOpX_ok hG hE k2 k3 hn' k1
    refine ⟨x,w0 ++ wl,w0.map (fun p=>(p.1,none)) ++ dl,?_,hx,fun p hp=>?_,fun p hp=>?_,by simpa using hk⟩
    · intro A w σ alw Lw a r h1 h2 h3
      obtain ⟨alw',σ1,r1,s1,s2,g1⟩:=k7 A w σ alw Lw a r h1 h2
      have e1:dlb (w0 ++ wl) = dlb w0 ++ dlb wl:=List.map_append
      refine Oper_wp_mono (hA A w σ1 alw' _ a r1 s1 s2 fun p hp=>?_) ?_ fun _ _ _ h=>h
      · rcases h3 p (by rw [e1];exact List.mem_append_right _ hp) with h4 | h4
        · left
          rw [lget_dlb] at h4 ⊢
          have:lget rl p.1 ≠ none:=fun e=>by rw [e] at h4;simp at h4
          have:=(k5 p.1).2 this
          cases hc:lget L' p.1 with
          | none=>exact absurd hc this
          | some c=>simp
        · right
          rcases lget_lupdG (dlb w0) Lw p.1 with ⟨q,hq,e2,_⟩ | ⟨_,e2⟩
          · exfalso
            obtain ⟨q',hq',rfl⟩:=List.mem_map.1 hq
            have e3:=(k4 q' hq').2
            cases hc:lget rl q'.1 with
            | none=>exact e3 hc
            | some c=>
              have:=h2 q'.1 c.pv (by rw [lget_dlb,hc];rfl)
              simp only at e2
              rw [e2,h4] at this;simp at this
          · rw [e2];exact h4
      · rintro a' w' ⟨σ',c,f1,f2,f3,f4⟩
        have e2:lupd Lw (dlb (w0 ++ wl)) = lupd (lupd Lw (dlb w0)) (dlb wl):=by rw [e1];unfold lupd;rw [List.foldl_append]
        rw [← e2] at f2 f3 f4
        exact ⟨σ',c,f1,f2,f3,g1.trans f4⟩
    · rcases List.mem_append.1 hp with hp | hp
      · rw [(k4 p hp).1];trivial
      · exact hwl p hp
    · rcases List.mem_append.1 hp with hp | hp
      · left;exact List.mem_append_left _ (List.mem_map.2 ⟨p,hp,rfl⟩)
      · rcases hd p hp with h1 | ⟨cs,cs',e1,e2,e3,e4⟩
        · exact .inl (List.mem_append_right _ h1)
        · exact .inr ⟨cs,cs',k6 _ _ e1,e2,e3,fun i hi=>e4 i fun hm=>hi (List.mem_append_right _ hm)⟩
def dwants (ops:Array Oper) (al:DAl) (o:Oper):Option Bool:=
  match o.guard with
  | none=>some true
  | some (j,want)=>match (ops[j]?).bind (·.dst) with
    | some d=>match lget al d with
      | some (.bool b)=>some (b == want)
      | some .dead=>some false
      | _=>none
    | none=>none
theorem dwants_ok {al:DAl} {o:Oper} {b:Bool} (h:dwants ops al o = some b):wants ops (dal al) o = some b:=by
  unfold dwants at h
  unfold wants
  split at h
  · rename_i hg;rw [hg];exact h
  · rename_i j want hg
    rw [hg]
    simp only
    split at h
    · rename_i d hd
      simp only [hd,lget_dal]
      split at h
      · rename_i c hc;rw [hc];exact h
      · rename_i hc;rw [hc];exact h
      · simp at h
    · simp at h
def splitK (sp:Bool) (x:DV) (k:DV → Option R):Option R:=match sp with
  | true=>match x with
    | .bool b=>cond b (k (.bool true)) (k (.bool false))
    | x=>k x
  | false=>k x
theorem splitK_ok {sp:Bool} {x:DV} {k:DV → Option R} (h:splitK sp x k = some r):k x = some r:=by
  unfold splitK at h
  split at h
  · split at h
    · rename_i b;cases b <;> exact h
    · exact h
  · exact h
theorem run_nil_slice {P:Program} {w:World} {T e:TypeId} (hu:P.underlying T = some (.slice e)) (D:Nat) (p:Option Addr) (n c:Nat):(Op.equalIn (D + 1) T (.slice p n c) (.slice none 0 0)).run P w = .ok p.isNone w:=by
  cases p <;> simp [Op.equalIn,run_underlying hu]
theorem AWl_nilq {al:Al} {L:Lb} {d:Option Tmp} {T yt e ty:TypeId} {pos:String} {after:Array Edge} {g:Option (Nat × Bool)} {x y:Operand} {cells:List PV} {m:Nat} {co:Option Nat} (hu:E.P.underlying T = some (.slice e)) (hx:xev E.G al x = some (.ro cells m co)) (hy:xev E.G al y = some .nils)
    (hd:∀ t,d = some t → t < n) (hg:wants ops al ⟨d,.binOp .eql T x y yt,ty,pos,after,g⟩ = some true) (k:∀ b:Bool,(b = true → m = 0) → AWl E K n ops rest Q (oset d (.bool b) al) L) :
    AWl E K n ops (⟨d,.binOp .eql T x y yt,ty,pos,after,g⟩ :: rest) Q al L:=by
  intro A w σ a r t
  have hvx:=xev_ok r (fun _ _ h=>h) hx
  have hvy:=xev_ok r (fun _ _ h=>h) hy
  obtain ⟨b,hb,hrun⟩:∃ b:Bool,(b = true → m = 0) ∧ (execOp a.eval ⟨d,.binOp .eql T x y yt,ty,pos,after,g⟩).run E.P w = .ok (.value (.bool b)) w:=by
    generalize hv:a.eval x = v at *
    generalize hv':a.eval y = v' at *
    cases hvy
    cases hvx with
    | roE p cap hc=>
      refine ⟨p.isNone,fun _=>rfl,?_⟩
      have he:(Op.equal T (.slice p 0 cap) (.slice none 0 0)).run E.P w = .ok p.isNone w:=run_nil_slice hu 9999 p 0 cap
      have h1:=run_eq_of (P:=E.P) (w:=w) (op:=.eql) (.inl rfl) (T:=T) (u:=.slice p 0 cap) (v:=.slice none 0 0) rfl he
      have h2:=run_guard_free (P:=E.P) (w:=w) (op:=.eql) (T:=T) (x:=x) (y:=y) (u:=.slice p 0 cap) (v:=.slice none 0 0) rfl
      simp at h1
      simp [execOp,hv,hv',h1,h2]
    | @ro _ _ _ β add cap cs him hl hv2 hn hc=>
      refine ⟨false,fun h=>by simp at h,?_⟩
      have he:(Op.equal T (.slice (some ⟨β,add,none⟩) m cap) (.slice none 0 0)).run E.P w = .ok false w:=run_nil_slice hu 9999 _ m cap
      have h1:=run_eq_of (P:=E.P) (w:=w) (op:=.eql) (.inl rfl) (T:=T) (u:=.slice (some ⟨β,add,none⟩) m cap) (v:=.slice none 0 0) rfl he
      have h2:=run_guard_free (P:=E.P) (w:=w) (op:=.eql) (T:=T) (x:=x) (y:=y) (u:=.slice (some ⟨β,add,none⟩) m cap) (v:=.slice none 0 0) rfl
      simp at h1
      simp [execOp,hv,hv',h1,h2]
  have hop:Oper.wp E.P ⟨d,.binOp .eql T x y yt,ty,pos,after,g⟩ a w (OpPost A w σ L a d (.bool b) []) (fun _ _ _=>False):=by
    unfold Oper.wp
    rw [hrun]
    exact ⟨σ,.bool b,rfl,.bool b,r.blocks,Grow.refl _ _ _ _⟩
  simp only [wpListIn]
  rw [if_pos (wants_ok r hg)]
  refine Oper_wpIn_mono (Oper_wpIn (not_defer hop ?_) hop) ?_ fun _ _ _ h=>h.elim
  · rintro a' w' ⟨σ',c,rfl,_⟩;exact put_defers _ _ _
  rintro a' w' ⟨σ',c,rfl,hv,hb',hgr⟩
  have r':=(r.grow hb' hgr).put (d:=d) (fun u hu=>by rw [t];exact hd u hu) hv
  refine wpListIn_mono ?_ _ _ _ (k b hb A w' σ' _ r' (by rw [size_put];exact t))
  exact fun e a w h=>Post.trans (hgr.weaken fun _ _=>trivial) h
/-- Both ways lead to the same. -/
noncomputable def agree (a b:Option R):Option R:=open Classical in if a = b then a else none
@[simp] theorem agree_self (a:Option R):agree a a = a:=by simp [agree]
theorem agree_ok {a b:Option R} (h:agree a b = some r):a = some r ∧ b = some r:=by
  unfold agree at h
  split at h
  · rename_i e;exact ⟨h,e ▸ h⟩
  · simp at h
def dNilq (P:Program) (G:GTab) (al:DAl) (o:Oper):Option Bool:=match o.op with
  | .binOp .eql T x y _=>match P.underlying T with
    | some (.slice _)=>match dev G al x with
      | some (.sl _ l)=>match dev G al y with
        | some .nils=>some l.isEmpty
        | _=>none
      | _=>none
    | _=>none
  | _=>none
abbrev OHs:=List (Nat × OH)
def ohOf (hs:OHs) (i:Nat):OH:=match lget hs i with
  | some h=>h
  | none=>{}
noncomputable def dOps (E:Env) (G:GTab) (C:CT E) (n:Nat) (kf:Bool) (hs:OHs) (ops:Array Oper) {R:Type}:List Oper → Nat → St → (St → Option R) → Option R
  | [],_,s,k=>k s
  | o :: rest,i,s,k=>match dwants ops s.al o with
    | some true=>match (ohOf hs i).nq with
     | true=>match dNilq E.P G s.al o with
      | some e=>if dstOK n o.dst = true then cond e (agree (dOps E G C n kf hs ops rest (i + 1) (s.set o.dst (.bool true)) k) (dOps E G C n kf hs ops rest (i + 1) (s.set o.dst (.bool false)) k)) (dOps E G C n kf hs ops rest (i + 1) (s.set o.dst (.bool false)) k) else none
      | none=>none
     | false=>match (ohOf hs i).wk with
      | false=>dFz (ohOf hs i).fz s fun s=>match dwants ops s.al o with
       | some true=>if dstOK n o.dst = true then dOpX E G C (ohOf hs i) o s.al s.L (frOf s.L) fun x wl dl=>splitK (ohOf hs i).split x fun x=>dOps E G C n kf hs ops rest (i + 1) ((s.wr wl dl).set o.dst x) k else none
       | _=>none
      | true=>match dwants ops s.dropF.al o with
       | some true=>match (ohOf hs i).io with
        | some j=>if dstOK n o.dst = true ∧ kf = true then dCallO true G (C.i j) o s.dropF.al s.dropF.L (frOf s.dropF.L) fun x wl dl=>dOps E G C n kf hs ops rest (i + 1) ((s.dropF.wr wl dl).set o.dst x) k else none
        | none=>none
       | _=>none
    | some false=>if dstOK n o.dst = true then dOps E G C n kf hs ops rest (i + 1) (s.set o.dst .dead) k else none
    | none=>none
theorem dOps_ok {G:GTab} {C:CT E} {hs:OHs} {kf:Bool} (hkf:kf = true → ¬ K fkeep) (hG:E.G = gtPV G) (hE:GOK E):∀ {rest:List Oper} {i:Nat} {s:St} {k:St → Option R},dOps E G C n kf hs ops rest i s k = some r → s.ok →
    (∀ s',Up s s' → s'.ok → k s' = some r → Q .normal (dal s'.al) (dlb s'.L)) → AWl E K n ops rest Q (dal s.al) (dlb s.L)
  | [],i,s,k,h,ho,hq=>AWl_nil (hq s (.refl s) ho h)
  | o :: rest,i,s,k,h,ho,hq=>by
    simp only [dOps] at h
    split at h
    · rename_i hw
      split at h
      · split at h
        rotate_left
        · simp at h
        rename_i e he
        split at h
        rotate_left
        · simp at h
        rename_i hdst
        have go:∀ b,dOps E G C n kf hs ops rest (i + 1) (s.set o.dst (.bool b)) k = some r → AWl E K n ops rest Q (oset o.dst (.bool b) (dal s.al)) (dlb s.L):=by
          intro b hb
          have ih:=dOps_ok hkf hG hE hb (set_ok ho (d:=o.dst) (x:=.bool b) trivial) fun s' u' o' k'=>hq s' ((set_up _ _ _).trans u') o' k'
          rw [dal_set,dlb_set] at ih
          exact ih
        obtain ⟨dst,op,ty,pos,after,g⟩:=o
        unfold dNilq at he
        simp only at he
        split at he
        · rename_i T x y yt
          split at he
          · rename_i eT hu
            split at he
            · rename_i tt l hx
              split at he
              · rename_i hy
                simp at he;subst he
                have hx':=(dev_ok ho.1 hx).1
                have hy':=(dev_ok ho.1 hy).1
                rw [← hG] at hx' hy'
                refine AWl_nilq hu hx' hy' (dstOK_ok hdst) (dwants_ok hw) fun b hb=>?_
                cases hl:l.isEmpty with
                | true=>
                  rw [hl] at h
                  obtain ⟨h1,h2⟩:=agree_ok h
                  cases b with
                  | true=>exact go true h1
                  | false=>exact go false h2
                | false=>
                  rw [hl] at h
                  cases b with
                  | true=>
                    have:l.length = 0:=hb rfl
                    have:l = []:=List.eq_nil_of_length_eq_zero this
                    subst this;simp at hl
                  | false=>exact go false h
              · simp at he
            · simp at he
          · simp at he
        · simp at he
      split at h
      rotate_left
      · -- families' blocks may be written
        split at h
        rotate_left
        · simp at h
        rename_i hw1
        have hw1:=dwants_ok hw1
        split at h
        rotate_left
        · simp at h
        split at h
        rotate_left
        · simp at h
        rename_i hc
        obtain ⟨hdst,hkf'⟩:=hc
        have hKf:=hkf hkf'
        have o1:s.dropF.ok:=dropF_ok ho
        obtain ⟨x,wl,dl,hA,hx,hwl,hd,h⟩:=dCallO_ok (wk:=true) hG hE o1.1 o1.2 h
        have u2:Up s.dropF ((s.dropF.wr wl dl).set o.dst x):=(wr_up hd).trans (set_up _ _ _)
        have o2:((s.dropF.wr wl dl).set o.dst x).ok:=set_ok (wr_ok o1 hwl) hx
        have ih:=dOps_ok hkf hG hE h o2 fun s' u' o' k'=>hq s' ((dropF_up s).trans (u2.trans u')) o' k'
        rw [dal_set,dlb_set] at ih
        refine AWl_weak (dropF_weak s) (AWl_opW hA hE (dropF_noF s) hKf (fun l cells h1 h2=>by rw [h1] at h2;simp at h2) (dstOK_ok hdst) (fun _ _ h=>h) (fun _ _ h=>h) (fun p _=>?_) hw1 ?_)
        · cases h:lget (dlb s.dropF.L) p.1 with
          | none=>exact .inr rfl
          | some y=>exact .inl (by simp)
        · rw [lupd_dlb];exact ih
      obtain ⟨s1,u1,o1,h,w1⟩:=dFz_ok (E:=E) (K:=K) h ho
      split at h
      rotate_left
      · simp at h
      rename_i hw1
      have hw1:=dwants_ok hw1
      split at h
      rotate_left
      · simp at h
      rename_i hdst
      obtain ⟨x,wl,dl,hA,hx,hwl,hd,h⟩:=dOpX_ok hG hE o1.1 o1.2 (frOf_ok (Nat.le_refl _)) h
      have h:=splitK_ok h
      have u2:Up s1 ((s1.wr wl dl).set o.dst x):=(wr_up hd).trans (set_up _ _ _)
      have o2:((s1.wr wl dl).set o.dst x).ok:=set_ok (wr_ok o1 hwl) hx
      have ih:=dOps_ok hkf hG hE h o2 fun s' u' o' k'=>hq s' (u1.trans (u2.trans u')) o' k'
      rw [dal_set,dlb_set] at ih
      refine AWl_weak w1 (AWl_op hA (dstOK_ok hdst) (fun _ _ h=>h) (fun _ _ h=>h) (fun p _=>?_) hw1 ?_)
      · cases h:lget (dlb s1.L) p.1 with
        | none=>exact .inr rfl
        | some y=>exact .inl (by simp)
      · rw [lupd_dlb];exact ih
    · rename_i hw
      split at h
      · rename_i hdst
        have ih:=dOps_ok hkf hG hE h (set_ok ho (d:=o.dst) (x:=.dead) trivial) fun s' u' o' k'=>hq s' ((set_up _ _ _).trans u') o' k'
        rw [dal_set,dlb_set] at ih
        exact AWl_skip (dwants_ok hw) (dstOK_ok hdst) ih
      · simp at h
    · simp at h
end
end Go.SH
namespace Go.SH
theorem bitB_ok (m i:Nat):bitB m i = m.testBit i:=by
  unfold bitB
  rw [beq_dec,Nat.testBit_eq_decide_div_mod_eq]
  congr 1
  show ((m >>> i) % 2 = 1) = _
  rw [Nat.shiftRight_eq_div_pow]
theorem maskOf_bit (acc:List Nat):∀ (es:List Nat) (i:Nat),(maskOf acc es).testBit i = true → i ∈ es ∨ ∃ k ∈ es,(acc.getD k 0).testBit i = true
  | [],i,h=>by simp [maskOf] at h
  | k :: r,i,h=>by
    have e:maskOf acc (k :: r) = ((1 <<< k) ||| (acc.getD k 0)) ||| maskOf acc r:=rfl
    rw [e,Nat.testBit_or,Nat.testBit_or,Bool.or_eq_true,Bool.or_eq_true] at h
    rcases h with (h | h) | h
    · left
      rw [Nat.one_shiftLeft,Nat.testBit_two_pow] at h
      simp at h
      subst h;simp
    · exact .inr ⟨k,by simp,h⟩
    · rcases maskOf_bit acc r i h with h | ⟨q,hq,h⟩
      · exact .inl (by simp [h])
      · exact .inr ⟨q,by simp [hq],h⟩
theorem masks_old:∀ (os:List Oper) (acc:List Nat) (j:Nat),j < acc.length → (masks os acc)[j]? = acc[j]?
  | [],acc,j,_=>rfl
  | o :: r,acc,j,h=>by
    rw [masks,masks_old r _ j (by simp;omega),List.getElem?_append_left h]
theorem masks_at:∀ (os:List Oper) (acc:List Nat) (j:Nat) (o:Oper),os[j]? = some o → ∃ acc',acc'.length = acc.length + j ∧ (∀ i,i < acc'.length → acc'[i]? = (masks os acc)[i]?) ∧ (masks os acc)[acc.length + j]? = some (maskOf acc' (edgesOf o))
  | [],acc,j,o,h=>by simp at h
  | o' :: r,acc,0,o,h=>by
    simp at h;subst h
    refine ⟨acc,by simp,fun i hi=>by rw [masks,masks_old r _ i (by simp;omega),List.getElem?_append_left hi],?_⟩
    rw [masks,masks_old r _ _ (by simp),List.getElem?_append_right (by omega)];simp
  | o' :: r,acc,j + 1,o,h=>by
    simp at h
    obtain ⟨acc',h1,h2,h3⟩:=masks_at r (acc ++ [maskOf acc (edgesOf o')]) j o h
    refine ⟨acc',by rw [h1];simp;omega,fun i hi=>by rw [h2 i hi];rfl,?_⟩
    have e:acc.length + (j + 1) = (acc ++ [maskOf acc (edgesOf o')]).length + j:=by simp;omega
    rw [e];exact h3
theorem masks_befs {ops:Array Oper}:∀ (m j i:Nat),j < m → j < ops.size → ((masks ops.toList []).getD j 0).testBit i = true → i ∈ befs ops m j
  | 0,j,i,h,_,_=>by omega
  | m + 1,j,i,h,hj,hb=>by
    have ho:ops.toList[j]? = some ops[j]:=by simp [hj]
    obtain ⟨acc',h1,h2,h3⟩:=masks_at ops.toList [] j _ ho
    simp only [List.length_nil,Nat.zero_add] at h1 h3
    rw [List.getD_eq_getElem?_getD,h3,Option.getD_some] at hb
    unfold befs
    have ho2:ops[j]? = some ops[j]:=by simp [hj]
    rw [ho2]
    simp only [List.mem_append,List.mem_flatMap]
    rcases maskOf_bit acc' _ i hb with h' | ⟨k,hk,hb'⟩
    · exact .inl h'
    · right
      have hkl:k < acc'.length:=by
        rcases Nat.lt_or_ge k acc'.length with h | h
        · exact h
        · rw [List.getD_eq_getElem?_getD,List.getElem?_eq_none h] at hb';simp at hb'
      refine ⟨k,hk,masks_befs m k i (by omega) (by omega) ?_⟩
      rw [List.getD_eq_getElem?_getD,← h2 k hkl,← List.getD_eq_getElem?_getD];exact hb'
theorem hasN_ok {l:List Nat} {x:Nat}:hasN l x = true ↔ x ∈ l:=by
  unfold hasN
  rw [List.any_eq_true]
  constructor
  · rintro ⟨y,hy,h⟩;rw [Nat.beq_eq] at h;subst h;exact hy
  · intro h;exact ⟨x,h,by rw [Nat.beq_eq]⟩
theorem meetN_no {a b:List Nat} (h:meetN a b = false) {x:Nat} (ha:x ∈ a) (hb:x ∈ b):False:=by
  have:meetN a b = true:=by unfold meetN;rw [List.any_eq_true];exact ⟨x,ha,hasN_ok.2 hb⟩
  rw [h] at this;simp at this
theorem pairsS_ok (mk:List Nat) (j:Nat) (rj wj:List Nat):∀ (xs:List (List Nat × List Nat)) (s i:Nat) (ri wi:List Nat),pairsS mk j rj wj xs s = true → xs[i]? = some (ri,wi) →
    bitB (mk.getD j 0) (s + i) = true ∨ (meetN wi (rj ++ wj) = false ∧ meetN wj ri = false)
  | [],s,i,ri,wi,_,h=>by simp at h
  | (ri',wi') :: r,s,0,ri,wi,hp,h=>by
    simp at h;obtain ⟨rfl,rfl⟩:=h
    simp only [pairsS,Bool.and_eq_true,Bool.or_eq_true,Bool.not_eq_true',Bool.or_eq_false_iff] at hp
    exact hp.1
  | (ri',wi') :: r,s,i + 1,ri,wi,hp,h=>by
    simp only [pairsS,Bool.and_eq_true] at hp
    have:=pairsS_ok mk j rj wj r (s + 1) i ri wi hp.2 (by simpa using h)
    rwa [show s + 1 + i = s + (i + 1) by omega] at this
theorem allS_ok (mk:List Nat):∀ (xs pre:List (List Nat × List Nat)) (s i j:Nat) (ri wi rj wj:List Nat),allS mk pre xs s = true → pre.length = s → i < s + j → (pre ++ xs)[i]? = some (ri,wi) → xs[j]? = some (rj,wj) →
    bitB (mk.getD (s + j) 0) i = true ∨ (meetN wi (rj ++ wj) = false ∧ meetN wj ri = false)
  | [],pre,s,i,j,ri,wi,rj,wj,_,_,_,_,h=>by simp at h
  | (rj',wj') :: r,pre,s,i,0,ri,wi,rj,wj,ha,hl,hi,h1,h2=>by
    simp at h2;obtain ⟨rfl,rfl⟩:=h2
    simp only [allS,Bool.and_eq_true] at ha
    rw [List.getElem?_append_left (by omega)] at h1
    have:=pairsS_ok mk s rj' wj' pre 0 i ri wi ha.1 h1
    simpa using this
  | (rj',wj') :: r,pre,s,i,j + 1,ri,wi,rj,wj,ha,hl,hi,h1,h2=>by
    simp only [allS,Bool.and_eq_true] at ha
    have:=allS_ok mk r (pre ++ [(rj',wj')]) (s + 1) i j ri wi rj wj ha.2 (by simp;omega) (by omega) (by rw [List.append_assoc];exact h1) (by simpa using h2)
    rwa [show s + 1 + j = s + (j + 1) by omega] at this
end Go.SH
namespace Go.SH
theorem clash_mem {a b:List Lc} (h:clash a b = true):∃ l,l ∈ a ∧ l ∈ b:=by
  simp only [clash,List.any_eq_true] at h
  obtain ⟨x,hx,y,hy,he⟩:=h
  simp at he;subst he
  exact ⟨x,hx,hy⟩
theorem memW {o:Oper} {f:Fp} {x:Lc} (h:x ∈ (fpW o f).map (·.1)):(∃ d,x = .inl d ∧ d ∈ wrS o) ∨ ∃ l,x = .inr l ∧ l ∈ wrL f:=by
  unfold fpW at h
  rw [List.map_append,List.mem_append] at h
  rcases h with h | h
  · left
    unfold wrS
    cases hd:o.dst with
    | none=>rw [hd] at h;simp at h
    | some d=>rw [hd] at h;simp at h;exact ⟨d,h,by simp⟩
  · right
    unfold wrL
    cases hr:f.run with
    | false=>rw [hr] at h;simp at h
    | true=>
      rw [hr] at h
      simp only [if_true,List.map_map,List.mem_map,Function.comp] at h
      obtain ⟨p,hp,rfl⟩:=h
      exact ⟨p.1,rfl,by simp only [if_true];exact List.mem_map_of_mem hp⟩
theorem memR {ops:Array Oper} {o:Oper} {f:Fp} {x:Lc} (hra:∀ p ∈ f.ra,p.1 ∈ slotsOf (opnds o.op)) (h:x ∈ (fpR ops o f).map (·.1)):(∃ d,x = .inl d ∧ d ∈ rdS ops o) ∨ ∃ l,x = .inr l ∧ l ∈ rdL f:=by
  unfold fpR at h
  rw [List.map_append,List.mem_append] at h
  rcases h with h | h
  · left
    unfold rdS
    cases hd:gslot ops o with
    | none=>rw [hd] at h;simp at h
    | some d=>rw [hd] at h;simp at h;exact ⟨d,h,by simp⟩
  · cases hr:f.run with
    | false=>rw [hr] at h;simp at h
    | true=>
      rw [hr] at h
      simp only [if_true,List.map_append,List.map_map,List.mem_append,List.mem_map,Function.comp] at h
      rcases h with (⟨p,hp,rfl⟩ | ⟨p,hp,rfl⟩) | ⟨l,hl,rfl⟩
      · exact .inl ⟨p.1,rfl,by unfold rdS;exact List.mem_append.2 (.inr (hra p hp))⟩
      · exact .inr ⟨p.1,rfl,by unfold rdL;rw [if_pos hr];exact List.mem_append.2 (.inl (List.mem_map_of_mem hp))⟩
      · exact .inr ⟨l,rfl,by unfold rdL;rw [if_pos hr];exact List.mem_append.2 (.inr hl)⟩
theorem indep_of {ops:Array Oper} {fs:List Fp} (hlen:fs.length = ops.size) (hS:indepS ops = true) (hD:pureL fs = true ∨ indepD ops fs = true)
    (hra:∀ (i:Nat) (o:Oper) (f:Fp),ops[i]? = some o → fs[i]? = some f → ∀ p ∈ f.ra,p.1 ∈ slotsOf (opnds o.op)):indep ops fs = true:=by
  unfold indep
  simp only [List.all_eq_true,List.mem_range]
  intro j hj i hi
  have hin:i < ops.size:=by omega
  have h1:ops[i]? = some ops[i]:=by simp [hin]
  have h2:fs[i]? = some fs[i]:=by simp [hlen,hin]
  have h3:ops[j]? = some ops[j]:=by simp [hj]
  have h4:fs[j]? = some fs[j]:=by simp [hlen,hj]
  have ri:=hra i _ _ h1 h2
  have rj:=hra j _ _ h3 h4
  have s1:(ops.toList.map fun o=>(rdS ops o,wrS o))[i]? = some (rdS ops ops[i],wrS ops[i]):=by simp [hin]
  have s2:(ops.toList.map fun o=>(rdS ops o,wrS o))[j]? = some (rdS ops ops[j],wrS ops[j]):=by simp [hj]
  have st:=allS_ok _ _ [] 0 i j _ _ _ _ hS rfl (by omega) (by rw [List.nil_append];exact s1) s2
  rw [Nat.zero_add] at st
  have dy:bitB ((masks ops.toList []).getD j 0) i = true ∨ (meetN (wrL fs[i]) (rdL fs[j] ++ wrL fs[j]) = false ∧ meetN (wrL fs[j]) (rdL fs[i]) = false):=by
    rcases hD with hD | hD
    · right
      have nil:∀ f ∈ fs,wrL f = []:=by
        intro f hf
        have:=List.all_eq_true.1 hD f hf
        unfold wrL
        split
        · split at this
          · rename_i hw;rw [hw];rfl
          · simp at this
        · rfl
      rw [nil _ (List.getElem_mem _),nil _ (List.getElem_mem _)]
      exact ⟨rfl,rfl⟩
    · have d1:(fs.map fun f=>(rdL f,wrL f))[i]? = some (rdL fs[i],wrL fs[i]):=by simp [hlen,hin]
      have d2:(fs.map fun f=>(rdL f,wrL f))[j]? = some (rdL fs[j],wrL fs[j]):=by simp [hlen,hj]
      have:=allS_ok _ _ [] 0 i j _ _ _ _ hD rfl (by omega) (by rw [List.nil_append];exact d1) d2
      rwa [Nat.zero_add] at this
  simp only [List.getD_eq_getElem?_getD,List.getElem?_map,List.getElem?_range hin,List.getElem?_range hj,Option.map_some,Option.getD_some,h1,h2,h3,h4]
  generalize ops[i] = oi at *
  generalize ops[j] = oj at *
  generalize fs[i] = fi at *
  generalize fs[j] = fj at *
  by_cases hb:bitB ((masks ops.toList []).getD j 0) i = true
  · have:=masks_befs ops.size j i hj hj (by rw [← bitB_ok];exact hb)
    simp [List.contains_iff_mem,this]
  · obtain ⟨s3,s4⟩:=st.resolve_left hb
    obtain ⟨d3,d4⟩:=dy.resolve_left hb
    rw [Bool.or_eq_true]
    right
    rw [Bool.not_eq_true',Bool.or_eq_false_iff]
    constructor
    · cases hc:clash ((fpW oi fi).map (·.1)) ((fpR ops oj fj).map (·.1) ++ (fpW oj fj).map (·.1)) with
      | false=>rfl
      | true=>
        exfalso
        obtain ⟨x,hx,hy⟩:=clash_mem hc
        rcases memW hx with ⟨d,rfl,hd⟩ | ⟨l,rfl,hl⟩
        · rcases List.mem_append.1 hy with hy | hy
          · rcases memR rj hy with ⟨d',e,hd'⟩ | ⟨l,e,_⟩
            · simp at e;subst e;exact meetN_no s3 hd (List.mem_append.2 (.inl hd'))
            · simp at e
          · rcases memW hy with ⟨d',e,hd'⟩ | ⟨l,e,_⟩
            · simp at e;subst e;exact meetN_no s3 hd (List.mem_append.2 (.inr hd'))
            · simp at e
        · rcases List.mem_append.1 hy with hy | hy
          · rcases memR rj hy with ⟨d',e,hd'⟩ | ⟨l',e,hl'⟩
            · simp at e
            · simp at e;subst e;exact meetN_no d3 hl (List.mem_append.2 (.inl hl'))
          · rcases memW hy with ⟨d',e,hd'⟩ | ⟨l',e,hl'⟩
            · simp at e
            · simp at e;subst e;exact meetN_no d3 hl (List.mem_append.2 (.inr hl'))
    · cases hc:clash ((fpW oj fj).map (·.1)) ((fpR ops oi fi).map (·.1)) with
      | false=>rfl
      | true=>
        exfalso
        obtain ⟨x,hx,hy⟩:=clash_mem hc
        rcases memW hx with ⟨d,rfl,hd⟩ | ⟨l,rfl,hl⟩
        · rcases memR ri hy with ⟨d',e,hd'⟩ | ⟨l,e,_⟩
          · simp at e;subst e;exact meetN_no s4 hd hd'
          · simp at e
        · rcases memR ri hy with ⟨d',e,hd'⟩ | ⟨l',e,hl'⟩
          · simp at e
          · simp at e;subst e;exact meetN_no d4 hl hl'
theorem textAl_app:∀ (os:List Oper) (fs:List Fp) (o:Oper) (f:Fp) (al:Al),os.length = fs.length → textAl (os ++ [o]) (fs ++ [f]) al = stepAl o f (textAl os fs al)
  | [],[],o,f,al,_=>rfl
  | [],_ :: _,o,f,al,h=>by simp at h
  | _ :: _,[],o,f,al,h=>by simp at h
  | o' :: os,f' :: fs,o,f,al,h=>textAl_app os fs o f _ (by simpa using h)
theorem textL_app:∀ (os:List Oper) (fs:List Fp) (o:Oper) (f:Fp) (L:Lb),os.length = fs.length → textL (os ++ [o]) (fs ++ [f]) L = stepL f (textL os fs L)
  | [],[],o,f,L,_=>rfl
  | [],_ :: _,o,f,L,h=>by simp at h
  | _ :: _,[],o,f,L,h=>by simp at h
  | o' :: os,f' :: fs,o,f,L,h=>textL_app os fs o f _ (by simpa using h)
theorem textVals_app (ops:Array Oper):∀ (os:List Oper) (fs:List Fp) (o:Oper) (f:Fp) (al:Al) (L:Lb),os.length = fs.length →
    textVals ops (os ++ [o]) (fs ++ [f]) al L = textVals ops os fs al L ++ [(fpR ops o f).map fun p=>memOf (textAl os fs al) (textL os fs L) p.1]
  | [],[],o,f,al,L,_=>rfl
  | [],_ :: _,o,f,al,L,h=>by simp at h
  | _ :: _,[],o,f,al,L,h=>by simp at h
  | o' :: os,f' :: fs,o,f,al,L,h=>by
    simp only [List.cons_append,textVals,textAl,textL]
    rw [textVals_app ops os fs o f _ _ (by simpa using h)]
theorem textWant_app (ops:Array Oper):∀ (os:List Oper) (fs:List Fp) (o:Oper) (f:Fp),os.length = fs.length → textWant ops (os ++ [o]) (fs ++ [f]) = textWant ops os fs ++ [(fpR ops o f).map (·.2)]
  | [],[],o,f,_=>rfl
  | [],_ :: _,o,f,h=>by simp at h
  | _ :: _,[],o,f,h=>by simp at h
  | o' :: os,f' :: fs,o,f,h=>by
    simp only [List.cons_append,textWant]
    rw [textWant_app ops os fs o f (by simpa using h)]
/-- So far as a statement of open order is run, in the text's order. -/
structure DInv (E:Env) (ops:Array Oper) (pre:List Oper) (fs:List Fp) (al0:Al) (L0:Lb) (al:Al) (L:Lb):Prop where
  len:pre.length = fs.length
  hal:al = textAl pre fs al0
  hL:L = textL pre fs L0
  tv:textVals ops pre fs al0 L0 = textWant ops pre fs
  op:∀ (i:Nat) (o:Oper) (f:Fp),pre[i]? = some o → fs[i]? = some f → f.run = true → AOp E o f.ra f.rl f.x f.wl
  gd:∀ (i:Nat) (o:Oper) (f:Fp),pre[i]? = some o → fs[i]? = some f → (match o.guard with | some _=>(!f.gd || !f.run) | none=>f.run) = true
  ra:∀ (i:Nat) (o:Oper) (f:Fp),pre[i]? = some o → fs[i]? = some f → ∀ p ∈ f.ra,p.1 ∈ slotsOf (opnds o.op)
theorem snoc_get {α:Type} {xs:List α} {x y:α} {i:Nat} (h:(xs ++ [x])[i]? = some y):(i < xs.length ∧ xs[i]? = some y) ∨ (i = xs.length ∧ y = x):=by
  rcases Nat.lt_or_ge i xs.length with hi | hi
  · rw [List.getElem?_append_left hi] at h;exact .inl ⟨hi,h⟩
  · rw [List.getElem?_append_right hi] at h
    cases hk:i - xs.length with
    | zero=>rw [hk] at h;simp at h;exact .inr ⟨by omega,h.symm⟩
    | succ k=>rw [hk] at h;simp at h
theorem DInv.snoc {E:Env} {ops:Array Oper} {pre:List Oper} {fs:List Fp} {al0 al:Al} {L0 L:Lb} (h:DInv E ops pre fs al0 L0 al L) {o:Oper} {f:Fp}
    (hr:∀ p ∈ fpR ops o f,memOf al L p.1 = p.2) (hop:f.run = true → AOp E o f.ra f.rl f.x f.wl) (hgd:(match o.guard with | some _=>(!f.gd || !f.run) | none=>f.run) = true) (hra:∀ p ∈ f.ra,p.1 ∈ slotsOf (opnds o.op)) :
    DInv E ops (pre ++ [o]) (fs ++ [f]) al0 L0 (stepAl o f al) (stepL f L):=by
  refine ⟨by simp [h.len],by rw [textAl_app _ _ _ _ _ h.len,h.hal],by rw [textL_app _ _ _ _ _ h.len,h.hL],?_,?_,?_,?_⟩
  · rw [textVals_app _ _ _ _ _ _ _ h.len,textWant_app _ _ _ _ _ h.len,h.tv,← h.hal,← h.hL]
    congr 2
    exact List.map_congr_left hr
  · intro i o' f' h1 h2 h3
    rcases snoc_get h1 with ⟨a,b⟩ | ⟨a,rfl⟩ <;> rcases snoc_get h2 with ⟨c,d⟩ | ⟨c,rfl⟩
    · exact h.op i _ _ b d h3
    · have:=h.len;omega
    · have:=h.len;omega
    · exact hop h3
  · intro i o' f' h1 h2
    rcases snoc_get h1 with ⟨a,b⟩ | ⟨a,rfl⟩ <;> rcases snoc_get h2 with ⟨c,d⟩ | ⟨c,rfl⟩
    · exact h.gd i _ _ b d
    · have:=h.len;omega
    · have:=h.len;omega
    · exact hgd
  · intro i o' f' h1 h2
    rcases snoc_get h1 with ⟨a,b⟩ | ⟨a,rfl⟩ <;> rcases snoc_get h2 with ⟨c,d⟩ | ⟨c,rfl⟩
    · exact h.ra i _ _ b d
    · have:=h.len;omega
    · have:=h.len;omega
    · exact hra
end Go.SH
namespace Go.SH
theorem Weak.subG {E:Env} {K:Nat → Prop} {al al':Al} {L:Lb} (hs:∀ t x,lget al' t = some x → lget al t = some x):Weak E K al L al' L:=fun _ w σ _ r=>
  ⟨σ,⟨fun t x hx=>r.tmps t x (hs t x hx),r.blocks,r.globals,r.nodefer⟩,Grow.refl _ _ _ _⟩
theorem draw_end {E:Env} (hm:E.P.follows .mixedOrders = true) {n id:Nat} {ops:Array Oper} {fs:List Fp} {al0 al:Al} {L0 L:Lb} {K:Nat → Prop} (h:DInv E ops ops.toList fs al0 L0 al L) (he:edgesOK ops = true) (hS:indepS ops = true) (hd:drawS n ops = true)
    (hp:pureL fs = true ∨ (nodupAll fs = true ∧ indepD ops fs = true)):AW E K n (.region id ops true) (fun e1 al1 L1=>e1 = .normal ∧ al1 = al ∧ L1 = L) al0 L0:=by
  have hlen:fs.length = ops.size:=by have:=h.len;simp at this;omega
  have g1:∀ (i:Nat) (o:Oper),ops[i]? = some o → ops.toList[i]? = some o:=fun i o h=>by simpa using h
  have hst:∀ (i:Nat) (o:Oper),ops[i]? = some o → (dstOK n o.dst && (match o.guard with | some _=>(gslot ops o).isSome | none=>true)) = true:=fun i o ho=>
    List.all_eq_true.1 ((Bool.and_eq_true _ _).mp hd).1 o (List.mem_of_getElem? (g1 i o ho))
  refine AW_post (AW_draw (Q:=fun e al1 L1=>e = .normal ∧ (∀ t,lget al1 t = lget al t) ∧ ∀ l,lget L1 l = lget L l) hm fs hlen (fun i o f ho hf hr=>h.op i o f (g1 i o ho) hf hr) (fun i o f ho hf=>⟨?_,?_,?_⟩) he
    (indep_of hlen hS (hp.imp (fun h=>h) (·.2)) fun i o f ho hf=>h.ra i o f (g1 i o ho) hf) h.tv (fun al1 L1 e1 e2=>⟨rfl,fun t=>by rw [e1,← h.hal],fun l=>by rw [e2,← h.hL]⟩) (fun i o ho=>List.all_eq_true.1 ((Bool.and_eq_true _ _).mp hd).2 o (List.mem_of_getElem? (g1 i o ho))) (fun _ _ h=>by simp at h)) ?_
  · have h1:=h.gd i o f (g1 i o ho) hf
    have h2:=hst i o ho
    unfold guardOK
    cases hg:o.guard with
    | none=>rw [hg] at h1;exact h1
    | some q=>rw [hg] at h1 h2;simp only [Bool.and_eq_true] at h2 ⊢;exact ⟨h2.2,h1⟩
  · rcases hp with hp | hp
    · have:=List.all_eq_true.1 hp f (List.mem_of_getElem? hf)
      split at this
      · rename_i hw;rw [hw];rfl
      · simp at this
    · exact List.all_eq_true.1 hp.1 f (List.mem_of_getElem? hf)
  · intro t ht
    have h2:=hst i o ho
    simp only [Bool.and_eq_true] at h2
    exact dstOK_ok h2.1 t ht
  · rintro e al1 L1 ⟨rfl,e1,e2⟩
    exact ⟨al,L,(Weak.subG fun t x hx=>by rw [e1];exact hx).trans (Weak.eqL fun l=>(e2 l).symm),rfl,rfl,rfl⟩
def TrB (m:Tr) (nx:Nat):Prop:=∀ l,tget m l ≠ none → l < nx
structure StOK (m:Tr) (nx lo:Nat) (m':Tr) (nx':Nat):Prop where
  le:nx ≤ nx'
  mx:nx' ≤ maxL
  trb:TrB m' nx'
  low:∀ l,l < lo → tget m' l = tget m l
  dom:∀ l,l < nx → tget m l = none → tget m' l = none
theorem wants_gval {ops:Array Oper} {al:Al} {o:Oper} {run:Bool} (h:wants ops al o = some run):(∀ d,gslot ops o = some d → lget al d = some (gval o run (gdOf ops al o))) ∧ (run = true → gdOf ops al o = false) ∧ (o.guard = none → run = true):=by
  unfold wants at h
  unfold gslot gval gdOf
  cases hg:o.guard with
  | none=>rw [hg] at h;simp at h;simp [h]
  | some q=>
    obtain ⟨j,want⟩:=q
    rw [hg] at h
    simp only at h ⊢
    have hh:(ops[j]?).bind (·.dst) = none ∨ ∃ d,(ops[j]?).bind (·.dst) = some d:=by cases (ops[j]?).bind (·.dst) <;> simp
    rcases hh with hd | ⟨d,hd⟩
    · simp [hd] at h
    · have hx':lget al d = none ∨ ∃ x,lget al d = some x:=by cases lget al d <;> simp
      rcases hx' with hx | ⟨x,hx⟩
      · simp [hd,hx] at h
      · simp only [hd,hx] at h ⊢
        cases x <;> simp at h
        · subst h
          refine ⟨fun d' hd'=>?_,by simp,by simp⟩
          simp at hd';subst hd'
          rw [hx];simp
        · rename_i b
          subst h
          refine ⟨fun d' hd'=>?_,by simp,by simp⟩
          simp at hd';subst hd'
          rw [hx];cases b <;> cases want <;> rfl
/-- What is looked at is as it is told. -/
theorem fpR_ok {ops:Array Oper} {al:Al} {L:Lb} {o:Oper} {f:Fp} (hw:wants ops al o = some f.run) (hgd:f.gd = gdOf ops al o) (hra:∀ p ∈ f.ra,lget al p.1 = some p.2) (hrl:∀ p ∈ f.rl,lget L p.1 = some p.2)
    (hnew:∀ l ∈ fnew f,lget L l = none):∀ p ∈ fpR ops o f,memOf al L p.1 = p.2:=by
  intro p hp
  unfold fpR at hp
  rw [List.mem_append] at hp
  rcases hp with hp | hp
  · cases hd:gslot ops o with
    | none=>rw [hd] at hp;simp at hp
    | some d=>
      rw [hd] at hp
      simp at hp;subst hp
      simp only [memOf]
      rw [(wants_gval hw).1 d hd,hgd]
  · split at hp
    · rw [List.mem_append,List.mem_append] at hp
      rcases hp with (hp | hp) | hp
      · simp only [List.mem_map] at hp
        obtain ⟨q,hq,rfl⟩:=hp
        simp only [memOf];rw [hra q hq]
      · simp only [List.mem_map] at hp
        obtain ⟨q,hq,rfl⟩:=hp
        simp only [memOf];rw [hrl q hq]
      · simp only [List.mem_map] at hp
        obtain ⟨l,hl,rfl⟩:=hp
        simp only [memOf];rw [hnew l hl]
    · simp at hp
end Go.SH
namespace Go.SH
mutual
/-- The names in a value. -/
def DV.names:DV → List Nat
  | .ptr l _=>[l]
  | .lp l _ _ _=>[l]
  | .rw l _ _ _ _ _=>[l]
  | .fn _ cs=>DV.namesL cs
  | .iface _ v=>v.names
  | .agg cs=>DV.namesL cs
  | .tup cs=>DV.namesL cs
  | _=>[]
def DV.namesL:List DV → List Nat
  | []=>[]
  | d :: r=>d.names ++ DV.namesL r
end
def draOf (al:DAl):List Nat → DAl
  | []=>[]
  | t :: r=>match lget al t with | some x=>(t,x) :: draOf al r | none=>draOf al r
def drlOf (L:DLb):List Nat → DLb
  | []=>[]
  | l :: r=>match lget L l with | some c=>(l,c) :: drlOf L r | none=>drlOf L r
theorem draOf_mem {al:DAl}:∀ {ts:List Nat} {p:Nat × DV},p ∈ draOf al ts → lget al p.1 = some p.2 ∧ p.1 ∈ ts
  | [],p,h=>by simp [draOf] at h
  | t :: r,p,h=>by
    simp only [draOf] at h
    split at h
    · rename_i x hx
      rcases List.mem_cons.1 h with rfl | h
      · exact ⟨hx,by simp⟩
      · obtain ⟨h1,h2⟩:=draOf_mem h;exact ⟨h1,List.mem_cons_of_mem _ h2⟩
    · obtain ⟨h1,h2⟩:=draOf_mem h;exact ⟨h1,List.mem_cons_of_mem _ h2⟩
theorem drlOf_mem {L:DLb}:∀ {ts:List Nat} {p:Nat × DC},p ∈ drlOf L ts → lget L p.1 = some p.2
  | [],p,h=>by simp [drlOf] at h
  | t :: r,p,h=>by
    simp only [drlOf] at h
    split at h
    · rename_i x hx
      rcases List.mem_cons.1 h with rfl | h
      · exact hx
      · exact drlOf_mem h
    · exact drlOf_mem h
/-- Does an operation look at blocks? -/
def looks:Op → Bool
  | .move _=>false
  | .assign _=>false
  | .pick _ _ _=>false
  | .binOp _ _ _ _ _=>false
  | .unOp _ _ _=>false
  | .fieldAddr _ _ _=>false
  | .field _ _ _=>false
  | .extract _ _=>false
  | .makeFunc _ _ _=>false
  | .makeInterface _ _=>false
  | .nilCheck _=>false
  | .build _ _=>false
  | .box _ _=>false
  | .buildSlice _ _ _=>false
  | _=>true
/-- Names, and those that stand in their blocks. -/
def deep (L:DLb) (op:Op) (ns:List Nat):List Nat:=match op with
  | .call ⟨.value _,_,_⟩=>flab :: fkeep :: (ns ++ ns.flatMap fun l=>match lget L l with
    | some (.cs ds)=>DV.namesL ds
    | _=>[])
  | _=>ns
def rlFor (op:Op) (ra:DAl) (L:DLb):DLb:=match looks op with
  | true=>drlOf L (deep L op (ra.flatMap fun p=>p.2.names))
  | false=>[]
theorem rlFor_mem {op:Op} {ra:DAl} {L:DLb} {p:Nat × DC} (h:p ∈ rlFor op ra L):lget L p.1 = some p.2:=by
  unfold rlFor at h
  split at h
  · exact drlOf_mem h
  · simp at h
theorem fnew_memD {f:Fp} {l:Nat} (h:l ∈ fnew f):lget f.rl l = none ∧ ∃ p ∈ f.wl,p.1 = l:=by
  unfold fnew at h
  simp only [List.mem_map,List.mem_filter] at h
  obtain ⟨p,⟨h1,h2⟩,rfl⟩:=h
  exact ⟨by simpa using h2,p,h1,rfl⟩
section
variable {E:Env} {K:Nat → Prop} {n:Nat} {Q:Exit → Al → Lb → Prop} {ops:Array Oper} {rest:List Oper} {R:Type} {r:R}
def dDraw (E:Env) (G:GTab) (C:CT E) (n:Nat) (hs:OHs) (ops:Array Oper) {R:Type}:List Oper → Nat → List Fp → St → (St → Option R) → Option R
  | [],_,fs,s,k=>if (edgesOK ops && (indepS ops && drawS n ops) && (pureL fs || (nodupAll fs && indepD ops fs.reverse))) = true then k s else none
  | o :: rest,i,fs,s,k=>match dwants ops s.al o with
    | some true=>let ra:=draOf s.al (slotsOf (opnds o.op))
      let rl:=rlFor o.op ra s.L
      dOpF E G C (ohOf hs i) o ra rl (frOf s.L) fun x wl dl=>
        if (wl.all fun p=>(rl.map (·.1)).elem p.1 || Nat.ble (frOf s.L) p.1) = true then splitK (ohOf hs i).split x fun x=>
          dDraw E G C n hs ops rest (i + 1) (⟨dal ra,dlb rl,x.pv,dlb wl,true,false⟩ :: fs) ((s.wr wl dl).set o.dst x) k else none
    | some false=>dDraw E G C n hs ops rest (i + 1) (⟨[],[],.dead,[],false,gdOf ops (dal s.al) o⟩ :: fs) (s.set o.dst .dead) k
    | none=>none
theorem dDraw_ok {G:GTab} {C:CT E} {hs:OHs} {id:Nat} (hm:E.P.follows .mixedOrders = true) (hG:E.G = gtPV G) (hE:GOK E) {al0:Al} {L0:Lb} :
    ∀ {rest pre:List Oper} {i:Nat} {fs:List Fp} {s:St} {k:St → Option R},ops.toList = pre ++ rest → DInv E ops pre fs.reverse al0 L0 (dal s.al) (dlb s.L) → dDraw E G C n hs ops rest i fs s k = some r → s.ok →
    (∀ s',Up s s' → s'.ok → k s' = some r → Q .normal (dal s'.al) (dlb s'.L)) → AW E K n (.region id ops true) Q al0 L0
  | [],pre,i,fs,s,k,hpre,hD,h,ho,hq=>by
    simp only [dDraw] at h
    split at h
    · rename_i hc
      simp only [Bool.and_eq_true] at hc
      obtain ⟨⟨h1,h2,h3⟩,h4⟩:=hc
      rw [List.append_nil] at hpre
      subst hpre
      refine (draw_end hm hD h1 h2 h3 ?_).mono fun e1 al1 L1 ⟨a,b,c⟩=>by subst a;subst b;subst c;exact hq s (.refl s) ho h
      simp only [Bool.or_eq_true,Bool.and_eq_true] at h4
      rcases h4 with hp | ⟨hp,hq⟩
      · left;unfold pureL at hp ⊢;rw [List.all_reverse];exact hp
      · right;exact ⟨by unfold nodupAll at hp ⊢;rw [List.all_reverse];exact hp,hq⟩
    · simp at h
  | o :: rest,pre,i,fs,s,k,hpre,hD,h,ho,hq=>by
    simp only [dDraw] at h
    split at h
    · rename_i hw
      have hw:=dwants_ok hw
      have hra:alOk (draOf s.al (slotsOf (opnds o.op))):=fun t x hx=>ho.1 t x (draOf_mem (mem_of_lget hx)).1
      have hrlm:∀ l c,lget (rlFor o.op (draOf s.al (slotsOf (opnds o.op))) s.L) l = some c → lget s.L l = some c:=fun l c hl=>rlFor_mem (mem_of_lget hl)
      have hn:lget (rlFor o.op (draOf s.al (slotsOf (opnds o.op))) s.L) (frOf s.L) = none:=by
        cases hc:lget (rlFor o.op (draOf s.al (slotsOf (opnds o.op))) s.L) (frOf s.L) with
        | none=>rfl
        | some c=>have:=hrlm _ _ hc;rw [frOf_ok (Nat.le_refl _)] at this;simp at this
      obtain ⟨x,wl,dl,hA,hx,hwl,hd,h⟩:=dOpF_ok hG hE hra (fun l c hl=>ho.2 l c (hrlm l c hl)) hn h
      simp only at h
      split at h
      · rename_i hwc
        have h:=splitK_ok h
        have hd':DirtyOK s.L wl dl:=fun p hp=>(hd p hp).imp (fun h=>h) fun ⟨cs,cs',e1,e2⟩=>⟨cs,cs',hrlm _ _ e1,e2⟩
        have u2:Up s ((s.wr wl dl).set o.dst x):=(wr_up hd').trans (set_up _ _ _)
        have o2:((s.wr wl dl).set o.dst x).ok:=set_ok (wr_ok ho hwl) hx
        have hgd:gdOf ops (dal s.al) o = false:=(wants_gval hw).2.1 rfl
        have hD':=hD.snoc (o:=o) (f:=⟨dal (draOf s.al (slotsOf (opnds o.op))),dlb (rlFor o.op (draOf s.al (slotsOf (opnds o.op))) s.L),x.pv,dlb wl,true,false⟩)
          (fpR_ok hw hgd.symm (fun p hp=>by
              obtain ⟨q,hq,rfl⟩:=List.mem_map.1 hp
              rw [lget_dal,(draOf_mem hq).1];rfl)
            (fun p hp=>by
              obtain ⟨q,hq,rfl⟩:=List.mem_map.1 hp
              rw [lget_dlb,rlFor_mem hq];rfl) fun l hl=>by
            obtain ⟨e1,p,hp,rfl⟩:=fnew_memD hl
            obtain ⟨q,hq,rfl⟩:=List.mem_map.1 hp
            have:=List.all_eq_true.1 hwc q hq
            simp only [Bool.or_eq_true] at this
            rcases this with this | this
            · have e2:=hasL_dlb this
              simp only [hasL] at e2
              simp only at e1
              rw [e1] at e2;simp at e2
            · have:=Nat.le_of_ble_eq_true this
              simp only;rw [lget_dlb,frOf_ok this];rfl)
          (fun _=>hA) (by cases hg:o.guard <;> rfl) fun p hp=>by
            obtain ⟨q,hq,rfl⟩:=List.mem_map.1 hp
            exact (draOf_mem hq).2
        refine dDraw_ok hm hG hE (pre:=pre ++ [o]) (by rw [hpre];simp) ?_ h o2 fun s' u' o' k'=>hq s' (u2.trans u') o' k'
        rw [List.reverse_cons,dal_set,dlb_set,show (s.wr wl dl).L = lupd s.L wl from rfl,← lupd_dlb]
        exact hD'
      · simp at h
    · rename_i hw
      have hw:=dwants_ok hw
      have hg:o.guard ≠ none:=fun h=>by have:=(wants_gval hw).2.2 h;simp at this
      have hD':=hD.snoc (o:=o) (f:=⟨[],[],.dead,[],false,gdOf ops (dal s.al) o⟩)
        (fpR_ok hw rfl (fun p hp=>by simp at hp) (fun p hp=>by simp at hp) fun l hl=>by obtain ⟨_,p,hp,_⟩:=fnew_memD hl;simp at hp)
        (fun h=>by simp at h) (by cases hgg:o.guard with | none=>exact absurd hgg hg | some q=>simp) fun p hp=>by simp at hp
      refine dDraw_ok hm hG hE (pre:=pre ++ [o]) (by rw [hpre];simp) ?_ h (set_ok ho (d:=o.dst) (x:=.dead) trivial) fun s' u' o' k'=>hq s' ((set_up _ _ _).trans u') o' k'
      rw [List.reverse_cons,dal_set,dlb_set]
      exact hD'
    · simp at h
end
end Go.SH
namespace Go.SH
section
variable {R:Type} {r:R}
def Tm.leafK (tm:Tm) (ks:List Nat) (b s:St) (k:tm.T → Option R):Option R:=
  match getS (frOf s.L) s.al tm.slots ⟨[],[],[]⟩ with
  | some g=>match getL (frOf s.L) s.L tm.labs (namesC (frOf s.L) s.L tm.cups g) with
    | some g=>match getC (frOf s.L) s.L tm.cups g with
      | some g=>
        let s':=tm.appL g.vs b
        if dirtyOK tm b s = true ∧ (ded (tm.slots.map (·.1) ++ tm.kill) b.al).all (fun p=>p.2.labs (idOK g.m s'.L)) = true ∧
            (ded (tm.labs.map (·.1)) b.L).all (fun p=>idOK g.m s'.L p.1 && dcLabs (idOK g.m s'.L) p.2) = true ∧ tm.cups.all (fun c=>idOK g.m s'.L c.1 && !tm.killL.elem c.1 && !(tm.labs.map (·.1)).elem c.1) = true ∧
            (g.m.all fun p=>(s'.L.map (·.1)).elem p.1) = true ∧ ks.all (fun l=>idOK g.m s'.L l) = true ∧
            (s'.L.all fun p=>s'.L.all fun q=>goneB p.2 || goneB q.2 || decide (lk g.m p.1 = lk g.m q.1 → p.1 = q.1)) = true ∧ nodupM g.m = true then
          reqs (lenF (lenT tm.labs (g.vs.drop (nS tm.slots))) b.L) g.q (match pack tm.hs g.vs with
            | some v=>k v
            | none=>none) else none
      | none=>none
    | none=>none
  | none=>none
theorem reqs_of {len:Nat → Nat} {k:Option R}:∀ {q:List (Nat × Nat)},(∀ p ∈ q,p.2 = len p.1) → reqs len q k = k
  | [],_=>rfl
  | (l,n) :: q,h=>by
    simp only [reqs]
    rw [req_pos (h (l,n) (by simp)),reqs_of fun p hp=>h p (List.mem_cons_of_mem _ hp)]
theorem leafK_ok {tm:Tm} {ks:List Nat} {b s:St} {k:tm.T → Option R} (h:tm.leafK ks b s k = some r):∃ v,tm.leaf ks b s = some v ∧ k v = some r:=by
  unfold Tm.leafK at h
  unfold Tm.leaf
  split at h
  · rename_i g1 h1
    rw [h1];simp only
    split at h
    · rename_i g2 h2
      rw [h2];simp only
      split at h
      · rename_i g3 h3
        rw [h3];simp only at h ⊢
        split at h
        · rename_i hc
          rw [if_pos hc]
          obtain ⟨hq,h⟩:=reqs_ok h
          rw [reqs_of hq]
          split at h
          · rename_i v hv;exact ⟨v,hv,h⟩
          · simp at h
        · simp at h
      · simp at h
    · simp at h
  · simp at h
def exB:Exit → Exit → Bool
  | .ret,.ret=>true
  | .exit i,.exit j=>Nat.beq i j
  | _,_=>false
theorem exB_ok {e e':Exit} (h:exB e e' = true):e = e' ∧ e ≠ .normal:=by
  unfold exB at h
  split at h
  · exact ⟨rfl,by simp⟩
  · have:=Nat.eq_of_beq_eq_true h;subst this;exact ⟨rfl,by simp⟩
  · simp at h
/-- The ways out of a loop. -/
@[reducible] def xty:List (Exit × Tm) → Type
  | []=>Empty
  | [x]=>x.2.T
  | x :: y :: r=>x.2.T ⊕ xty (y :: r)
def xleafK (ks:List Nat) (b:St) (e:Exit) (s:St):(xs:List (Exit × Tm)) → (xty xs → Option R) → Option R
  | [],_=>none
  | [x],k=>if exB e x.1 = true then x.2.leafK ks b s k else none
  | x :: y :: r,k=>if exB e x.1 = true then x.2.leafK ks b s fun v=>k (.inl v) else xleafK ks b e s (y :: r) fun v=>k (.inr v)
def xcont (s:St) (kx:Exit → St → Option R):(xs:List (Exit × Tm)) → xty xs → Option R
  | [],v=>nomatch v
  | [x],v=>kx x.1 (x.2.app v s)
  | x :: y :: r,v=>match v with
    | .inl v=>kx x.1 (x.2.app v s)
    | .inr v=>xcont s kx (y :: r) v
inductive Hint where
  | leaf
  | seq (a b:Hint)
  | join (t:Tm) (a b:Hint)
  | joinX (t:Tm) (a b:Hint)
  | cond (a b:Hint)
  | blk (a:Hint)
  | loop (t:Tm) (xs:List (Exit × Tm)) (a:Hint)
  | reg (hs:OHs)
def Hint.one:Hint → Hint
  | .seq a _=>a
  | .cond a _=>a
  | .blk a=>a
  | _=>.leaf
def Hint.two:Hint → Hint
  | .seq _ b=>b
  | .cond _ b=>b
  | _=>.leaf
def Hint.hs:Hint → OHs
  | .reg hs=>hs
  | _=>[]
end
def swK {R:Type} (kf sw:Bool) (s:St) (k:St → Option R):Option R:=match sw with
  | true=>match kf with
    | true=>s.swF k
    | false=>none
  | false=>k s
theorem swK_ok {E:Env} {K:Nat → Prop} {R:Type} {r:R} {kf sw:Bool} {s:St} {k:St → Option R} (hkf:kf = true → ¬ K fkeep) (hG:GOK E) (h:swK kf sw s k = some r) (hs:s.ok) :
    ∃ s',Up s s' ∧ s'.ok ∧ k s' = some r ∧ Weak E K (dal s.al) (dlb s.L) (dal s'.al) (dlb s'.L):=by
  unfold swK at h
  split at h
  · split at h
    · exact swF_ok (hkf rfl) hG h hs
    · simp at h
  · exact ⟨s,.refl s,hs,h,.refl⟩
/-- What code does to a state, as a Lean function. -/
noncomputable def D (E:Env) (G:GTab) (C:CT E) (n:Nat):Code → Hint → (R:Type) → List Nat → St → (St → Option R) → (Exit → St → Option R) → Option R
  | .skip,_,_,_,s,kn,_=>kn s
  | .label _,_,_,_,s,kn,_=>kn s
  | .exit i,_,_,_,s,_,kx=>kx (.exit i) s
  | .goto i,_,_,_,s,_,kx=>kx (.goto i) s
  | .ret,_,_,_,s,_,kx=>kx .ret s
  | .seq x y,h,R,ks,s,kn,kx=>match h with
    | .join tm a b=>(D E G C n x a tm.T ks s.clean (fun s'=>tm.leafK ks s.clean s' some) (fun _ _=>none)).bind fun v=>D E G C n y b R ks (tm.app v s) kn kx
    | .joinX tm a b=>(D E G C n x a (tm.T ⊕ R) ks s.clean (fun s'=>tm.leafK ks s.clean s' fun v=>some (.inl v)) (fun e s'=>Option.map Sum.inr (kx e { s' with ds:=s'.ds ++ s.ds,dl:=s'.dl ++ s.dl }))).bind fun o=>match o with
      | .inl v=>D E G C n y b R ks (tm.app v s) kn kx
      | .inr v=>some v
    | h=>D E G C n x h.one R ks s (fun s'=>D E G C n y h.two R ks s' kn kx) kx
  | .cond c x y,h,R,ks,s,kn,kx=>match c with
    | .tmp t=>match lget s.al t with
      | some (.bool b)=>cond b (D E G C n x h.one R ks s kn kx) (D E G C n y h.two R ks s kn kx)
      | _=>none
    | .const (.bool b)=>cond b (D E G C n x h.one R ks s kn kx) (D E G C n y h.two R ks s kn kx)
    | _=>none
  | .block i c,h,R,ks,s,kn,kx=>D E G C n c h.one R ks s kn fun e s'=>if exB e (.exit i) = true then kn s' else kx e s'
  | .scope c,h,R,ks,s,kn,kx=>D E G C n c h R ks s kn fun e s'=>match e with
    | .goto _=>none
    | e=>kx e s'
  | .loop c,h,R,ks,s,kn,kx=>match h with
    | .loop tm xs a=>if tm.kOK = true then tm.leafK ks s.clean s.clean fun v0=>
      (loopO (fun v:tm.T=>D E G C n c a (xty xs ⊕ tm.T) ks (tm.app v s.clean) (fun s'=>tm.leafK ks s.clean s' fun w=>some (.inr w)) (fun e s'=>xleafK ks s.clean e s' xs fun w=>some (.inl w))) v0).bind fun o=>xcont s kx xs o else none
    | _=>none
  | .region _ ops dr,h,_,ks,s,kn,_=>swK (!ks.elem fkeep) (ohOf h.hs 9999).sw s fun s=>match dr with
    | false=>dOps E G C n (!ks.elem fkeep) h.hs ops ops.toList 0 s kn
    | true=>dDraw E G C n h.hs ops ops.toList 0 [] s kn
  | _,_,_,_,_,_,_=>none
theorem Ext.trans' {b s s':St} (h:Ext b s) (h':Ext s.clean s'):Ext b { s' with ds:=s'.ds ++ s.ds,dl:=s'.dl ++ s.dl }:=by
  refine ⟨fun t ht=>?_,fun l hl=>?_,fun l cs0 hl h0=>?_⟩
  · simp only [List.mem_append,not_or] at ht
    exact (h'.sl t ht.1).trans (h.sl t ht.2)
  · simp only [List.mem_append,not_or] at hl
    exact (h'.lb l fun i=>(hl i).1).trans (h.lb l fun i=>(hl i).2)
  · simp only [List.mem_append,not_or] at hl ⊢
    obtain ⟨cs,c1,c2,c3⟩:=h.ce l cs0 hl.2 h0
    obtain ⟨cs',d1,d2,d3⟩:=h'.ce l cs hl.1 c1
    exact ⟨cs',d1,d2.trans c2,fun i hi=>(d3 i hi.1).trans (c3 i hi.2)⟩
theorem clean_ok {s:St} (h:s.ok):s.clean.ok:=h
section
variable {E:Env} {K:Nat → Prop} {n:Nat} {G:GTab} {C:CT E}
theorem xleafK_ok {ks:List Nat} {b:St} {e:Exit} {s:St} {R:Type} {r:R} (he:Ext b s) (hs:s.ok) (hb:b.ok) (hK:∀ l,K l → l ∈ ks) (hE:GOK E):∀ {xs:List (Exit × Tm)} {k:xty xs → Option R},xleafK ks b e s xs k = some r →
    ∃ v:xty xs,k v = some r ∧ ∃ x ∈ xs,∃ w:x.2.T,e = x.1 ∧ e ≠ .normal ∧ Weak E K (dal s.al) (dlb s.L) (dal (x.2.app w b).al) (dlb (x.2.app w b).L) ∧ (x.2.app w b).ok ∧ ∀ (s0:St) {R':Type} (kx:Exit → St → Option R'),xcont s0 kx xs v = kx x.1 (x.2.app w s0)
  | [],k,h=>by simp [xleafK] at h
  | [x],k,h=>by
    simp only [xleafK] at h
    split at h
    · rename_i hx
      obtain ⟨rfl,hne⟩:=exB_ok hx
      obtain ⟨v,hv,h⟩:=leafK_ok h
      obtain ⟨hw,ho⟩:=leaf_ok hv he hs hb hK hE
      exact ⟨v,h,x,by simp,v,rfl,hne,hw,ho,fun _ _ _=>rfl⟩
    · simp at h
  | x :: y :: rr,k,h=>by
    simp only [xleafK] at h
    split at h
    · rename_i hx
      obtain ⟨rfl,hne⟩:=exB_ok hx
      obtain ⟨v,hv,h⟩:=leafK_ok h
      obtain ⟨hw,ho⟩:=leaf_ok hv he hs hb hK hE
      exact ⟨.inl v,h,x,by simp,v,rfl,hne,hw,ho,fun _ _ _=>rfl⟩
    · obtain ⟨v,h,z,hz,w,e1,e2,e3,e4,e5⟩:=xleafK_ok he hs hb hK hE h
      exact ⟨.inr v,h,z,List.mem_cons_of_mem _ hz,w,e1,e2,e3,e4,fun s0 _ kx=>e5 s0 kx⟩
theorem D_ok (hm:E.P.follows .mixedOrders = true) (hG:E.G = gtPV G) (hE:GOK E) {ks:List Nat} (hK:∀ l,K l → l ∈ ks):∀ (c:Code) {h:Hint} {R:Type} {s:St} {kn:St → Option R} {kx:Exit → St → Option R} {r:R} {Q:Exit → Al → Lb → Prop},
    D E G C n c h R ks s kn kx = some r → s.ok → (∀ s',Up s s' → s'.ok → kn s' = some r → Q .normal (dal s'.al) (dlb s'.L)) → (∀ e s',e ≠ .normal → Up s s' → s'.ok → kx e s' = some r → Q e (dal s'.al) (dlb s'.L)) →
    AW E K n c Q (dal s.al) (dlb s.L):=by
  intro c
  induction c with
  | skip=>intro h R s kn kx r Q hr ho hn hx;exact AW_skip (hn s (.refl s) ho hr)
  | label l=>intro h R s kn kx r Q hr ho hn hx;exact AW_label (hn s (.refl s) ho hr)
  | exit i=>intro h R s kn kx r Q hr ho hn hx;exact AW_exit (hx _ s (by simp) (.refl s) ho hr)
  | goto i=>intro h R s kn kx r Q hr ho hn hx;exact AW_goto (hx _ s (by simp) (.refl s) ho hr)
  | ret=>intro h R s kn kx r Q hr ho hn hx;exact AW_ret (hx _ s (by simp) (.refl s) ho hr)
  | region id ops dr=>
    intro h R s kn kx r Q hr ho hn hx
    simp only [D] at hr
    have hkf:(!ks.elem fkeep) = true → ¬ K fkeep:=fun h1 h2=>by
      have:=hK _ h2
      simp at h1
      exact h1 this
    obtain ⟨s1,u1,o1,hr,w1⟩:=swK_ok (E:=E) hkf hE hr ho
    refine AW_weak w1 ?_
    cases dr with
    | false=>exact AW_region (dOps_ok hkf hG hE hr o1 fun s' u=>hn s' (u1.trans u))
    | true=>exact dDraw_ok hm hG hE (pre:=[]) rfl ⟨rfl,rfl,rfl,rfl,by simp,by simp,by simp⟩ hr o1 fun s' u=>hn s' (u1.trans u)
  | cond c x y ihx ihy=>
    intro h R s kn kx r Q hr ho hn hx
    simp only [D] at hr
    split at hr
    · rename_i t
      split at hr
      · rename_i b hb
        refine AW_cond (b:=b) (by rw [lget_dal,hb];rfl) (fun e=>?_) fun e=>?_
        · subst e;exact ihx hr ho hn hx
        · subst e;exact ihy hr ho hn hx
      · simp at hr
    · rename_i b
      refine AW_cond_const (fun e=>?_) fun e=>?_
      · subst e;exact ihx hr ho hn hx
      · subst e;exact ihy hr ho hn hx
    · simp at hr
  | block i c ih=>
    intro h R s kn kx r Q hr ho hn hx
    simp only [D] at hr
    refine AW_block (ih hr ho hn fun e s' hne hu hok hk=>?_)
    split at hk
    · rename_i he
      obtain ⟨rfl,_⟩:=exB_ok he
      simp only [ablock,if_pos]
      exact hn s' hu hok hk
    · rename_i he
      cases e with
      | exit j=>
        simp only [ablock]
        split
        · rename_i hj;subst hj;simp [exB] at he
        · exact hx _ s' hne hu hok hk
      | normal=>exact absurd rfl hne
      | goto l=>exact hx _ s' hne hu hok hk
      | ret=>exact hx _ s' hne hu hok hk
      | panic c=>exact hx _ s' hne hu hok hk
      | outgrown=>exact hx _ s' hne hu hok hk
  | scope c ih=>
    intro h R s kn kx r Q hr ho hn hx
    simp only [D] at hr
    refine AW_scope (AWsc_run (ih hr ho hn fun e s' hne hu hok hk=>?_))
    cases e with
    | goto l=>simp at hk
    | normal=>exact absurd rfl hne
    | exit l=>exact hx _ s' hne hu hok hk
    | ret=>exact hx _ s' hne hu hok hk
    | panic c=>exact hx _ s' hne hu hok hk
    | outgrown=>exact hx _ s' hne hu hok hk
  | seq x y ihx ihy=>
    intro h R s kn kx r Q hr ho hn hx
    simp only [D] at hr
    split at hr
    · rename_i tm a b
      obtain ⟨v,hv,hr⟩:=bind_some hr
      refine AW_seq ((ihx (Q:=fun e al L=>e = .normal ∧ Weak E K al L (dal (tm.app v s.clean).al) (dlb (tm.app v s.clean).L) ∧ (tm.app v s.clean).ok) hv (clean_ok ho) (fun s' hu hok hk=>?_) (fun e s' hne hu hok hk=>by simp at hk)).mono ?_)
      · obtain ⟨w,hw,hk⟩:=leafK_ok hk
        simp at hk;subst hk
        exact ⟨rfl,leaf_ok hw (hu _ (.refl _)) hok (clean_ok ho) hK hE⟩
      · rintro e al L ⟨rfl,hw,hok⟩
        exact AW_weak hw (ihy (s:=tm.app v s) hr hok (fun s' hu=>hn s' ((app_up tm v s).trans hu)) fun e s' hne hu=>hx e s' hne ((app_up tm v s).trans hu))
    · rename_i tm a b
      obtain ⟨o,hv,hr⟩:=bind_some hr
      refine AW_seq ((ihx (Q:=fun e al L=>match o with
          | .inl v=>e = .normal ∧ Weak E K al L (dal (tm.app v s.clean).al) (dlb (tm.app v s.clean).L) ∧ (tm.app v s.clean).ok
          | .inr w=>e ≠ .normal ∧ Q e al L) hv (clean_ok ho) (fun s' hu hok hk=>?_) (fun e s' hne hu hok hk=>?_)).mono ?_)
      · obtain ⟨w,hw,hk⟩:=leafK_ok hk
        simp at hk;subst hk
        exact ⟨rfl,leaf_ok hw (hu _ (.refl _)) hok (clean_ok ho) hK hE⟩
      · obtain ⟨w,hk',rfl⟩:=map_some hk
        simp at hr;subst hr
        exact ⟨hne,hx e { s' with ds:=s'.ds ++ s.ds,dl:=s'.dl ++ s.dl } hne (fun b hb=>hb.trans' (hu _ (.refl _))) hok hk'⟩
      · intro e al L hq
        cases o with
        | inl v=>
          obtain ⟨rfl,hw,hok⟩:=hq
          exact AW_weak hw (ihy (s:=tm.app v s) hr hok (fun s' hu=>hn s' ((app_up tm v s).trans hu)) fun e s' hne hu=>hx e s' hne ((app_up tm v s).trans hu))
        | inr w=>
          obtain ⟨hne,hq⟩:=hq
          cases e with
          | normal=>exact absurd rfl hne
          | _=>exact hq
    · refine AW_seq (ihx hr ho (fun s' hu hok hk=>ihy hk hok (fun s'' hu'=>hn s'' (hu.trans hu')) fun e s'' hne hu'=>hx e s'' hne (hu.trans hu')) fun e s' hne hu hok hk=>?_)
      have:=hx e s' hne hu hok hk
      cases e with
      | normal=>exact absurd rfl hne
      | _=>exact this
  | loop c ih=>
    intro h R s kn kx r Q hr ho hn hx
    simp only [D] at hr
    split at hr
    · rename_i tm xs a
      split at hr
      · rename_i hkOK
        obtain ⟨v0,h0,hr⟩:=leafK_ok hr
        obtain ⟨o,hl,hr⟩:=bind_some hr
        obtain ⟨hw0,_⟩:=leaf_ok h0 (.refl _) (clean_ok ho) (clean_ok ho) hK hE
        refine AW_loopM _ (fun v=>dal (tm.app v s.clean).al) (fun v=>dlb (tm.app v s.clean).L)
          (fun v e al L=>∃ x ∈ xs,∃ w:x.2.T,e = x.1 ∧ Weak E K al L (dal (x.2.app w s.clean).al) (dlb (x.2.app w s.clean).L) ∧ (x.2.app w s.clean).ok ∧ ∀ (s0:St) {R':Type} (kx:Exit → St → Option R'),xcont s0 kx xs v = kx x.1 (x.2.app w s0)) hl hw0 (fun v o' hst=>?_) ?_
        · have hok:=app_ok hkOK v (clean_ok ho)
          have hue:Ext s.clean (tm.app v s.clean):=app_up tm v s.clean _ (.refl _)
          refine ih (s:=tm.app v s.clean) hst hok (fun s' hu hok' hk=>?_) (fun e s' hne hu hok' hk=>?_)
          · obtain ⟨w,hw,hk⟩:=leafK_ok hk
            simp at hk;subst hk
            exact .on (leaf_ok hw (hu _ hue) hok' (clean_ok ho) hK hE).1
          · obtain ⟨w,hk,x,hx,u,e1,e2,e3,e4,e5⟩:=xleafK_ok (hu _ hue) hok' (clean_ok ho) hK hE hk
            simp at hk;subst hk
            exact .off e2 ⟨x,hx,u,e1,e3,e4,e5⟩
        · rintro e al L ⟨x,_,w,rfl,hw,hok,hc⟩ hne
          rw [hc] at hr
          exact ⟨_,_,hw,hx x.1 (x.2.app w s) hne (app_up x.2 w s) hok hr⟩
      · simp at hr
    · simp at hr
  | rangeFunc f ps a b=>intro h R s kn kx r Q hr ho hn hx;simp [D] at hr
  | refuse=>intro h R s kn kx r Q hr ho hn hx;simp [D] at hr
end
end Go.SH
namespace Go.SH
/-- The end of a function that hands out plain values. -/
def RetsO (E:Env) (fn:Func) (v:PV):Exit → Al → Lb → Prop:=
  fun e al L=>(match e with | .normal=>True | .ret=>True | _=>False) ∧ ∃ xs,xres E.P al L fn.results.toList = some xs ∧ OutLe L (rtup xs) v
theorem ACalls_pureO {E:Env} (hE:GOK E) {f:FuncId} {fn:Func} {c:Code} {args:List PV} {v:PV} (hf:E.P.funcs[f]? = some fn) (hb:fn.body = some c) (hn:args.length ≤ fn.ntmps)
    (h:AW (E.on none none) (fun _=>False) fn.ntmps c (RetsO (E.on none none) fn v) (entry args 0) []):Pure E f args v:=by
  intro A w σ cargs hl hv hbr hg
  refine calls_of_wp hf hb (wpIn_wide.1 (wpIn_mono (h A w σ _ ⟨?_,hbr,hg,rfl⟩ ?_) ?_))
  · intro t x hx
    obtain ⟨h1,h2⟩:=lget_entry args 0 t x hx
    simp at h2
    have ht:t < cargs.length:=by rw [hl];exact (List.getElem?_eq_some_iff.1 h2).1
    exact ⟨cargs[t],by rw [Array.getElem?_append_left (by simpa using ht)];simp [ht],hv t x _ h2 (List.getElem?_eq_getElem ht)⟩
  · simp;omega
  · rintro e a' w' ⟨al',L',σ',⟨he,xs,hx,z,hz,hle⟩,r',g',t'⟩
    have hdis:∀ β,avOf σ' L' β → ¬ avo A sig0 [] β:=by
      rintro β h (h' | h')
      · exact (r'.blocks.lo β h').2 h
      · exact avz h'
    have hsub:∀ β,¬ avo A σ' L' β → ¬ avo A sig0 [] β:=by
      rintro β h (h' | h')
      · exact h (.inl h')
      · exact avz h'
    obtain ⟨u,h1,h2⟩:=run_results r' hx
    have h2':VR w' sig0 (avo A sig0 []) v u:=hle _ _ _ _ (hz.ok r'.blocks h2 hsub hdis)
    have hbr':BR w' sig0 A []:=BR0 fun β hA=>(r'.blocks.lo β hA).1
    have hgr:Grow (fun l=>lget ([]:Lb) l ≠ none) w σ [] w' sig0 []:=⟨g'.size,fun l y hk=>absurd rfl hk,fun β hb hn=>⟨avz,(g'.keep β hb hn).2⟩,g'.out,fun hk=>absurd rfl hk⟩
    cases e with
    | normal=>exact ⟨r'.nodefer,u,h1,_,u,[],sig0,rfl,⟨rfl,rfl⟩,h2',hbr',hgr⟩
    | ret=>exact ⟨r'.nodefer,u,h1,_,u,[],sig0,rfl,⟨rfl,rfl⟩,h2',hbr',hgr⟩
    | _=>exact he.elim
/-- A result that goes into the first family. -/
inductive FamRes (qq:Nat) (L:Lb):PV → PV → Prop where
  | le {x:PV} {cells:List PV} {n:Nat} (h:PLe x (.fs qq cells n none)) (hp:withinL (fun _=>false) cells = true):FamRes qq L x (.fs qq cells n none)
  | rw {l off n sz:Nat} {co:Option Nat} {cells part ys:List PV} (hl:lget L l = some (some cells)) (hp:(cells.drop off).take (n * sz) = part) (hin:off + n * sz ≤ cells.length) (hpure:withinL (fun _=>false) part = true) (hle:CLe part ys):FamRes qq L (.rw l off n sz co) (.fs qq ys n none)
def RetsF (qq:Nat) (E:Env) (fn:Func) (v:PV):Exit → Al → Lb → Prop:=
  fun e al L=>(match e with | .normal=>True | .ret=>True | _=>False) ∧ ∃ x,xres E.P al L fn.results.toList = some [x] ∧ FamRes qq L x v
/-- What a family's blocks are at a function's end: those that there were, and one more. -/
theorem FamRes.ok {qq:Nat} {A:Nat → Prop} {w:World} {σ:Sig} {L:Lb} (hb:BR w σ A L) {x v:PV} (h:FamRes qq L x v) {u:Value} (hv:VR w σ (avo A σ L) x u) :
    ∃ σf:Sig,(∀ β,avOf σf [] β → avOf σ L β) ∧ BR w σf A [] ∧ VR w σf (avo A σf []) v u:=by
  have mk:∀ B:Nat → Nat → Prop,(∀ β add,B β add → labOf σ L β) → (∀ β add add',B β add → B β add' → add = add') →
      let σf:Sig:=⟨fun _=>none,fun q β add=>q = qq ∧ (σ.fam qq β add ∨ B β add)⟩
      (∀ β,avOf σf [] β → avOf σ L β) ∧ BR w σf A []:=by
    intro B hB1 hB2 σf
    have hav:∀ β,avOf σf [] β → avOf σ L β:=by
      rintro β (⟨l,c,a,s,h1,_⟩ | ⟨q,add,_,h | h⟩)
      · simp [lget] at h1
      · exact .inr ⟨qq,add,h⟩
      · exact .inl (hB1 β add h)
    refine ⟨hav,⟨by simp [lget],by simp [lget],by simp [σf],fun β hA=>⟨(hb.lo β hA).1,fun h=>(hb.lo β hA).2 (hav β h)⟩,⟨?_,?_,?_⟩⟩⟩
    · rintro q β add ⟨_,h⟩
      refine ⟨?_,by rintro ⟨l,c,a,s,h1,_⟩;simp [lget] at h1⟩
      rcases h with h | h
      · exact (hb.fr.fam qq β add h).1
      · exact hb.lt (.inl (hB1 β add h))
    · rintro q β add ⟨_,h | h⟩
      · exact hb.fr.cel qq β add h
      · obtain ⟨l,c,a,s,h1,h2⟩:=hB1 β add h
        rcases hb.all l c h1 with ⟨h3,_⟩ | ⟨β',a',s',cc,T,fr,hBk⟩
        · rw [h2] at h3;simp at h3
        · have:=hBk.sig;rw [h2] at this;simp at this
          obtain ⟨rfl,_,_⟩:=this
          exact ⟨_,_,_,hBk.heap⟩
    · rintro q q' β add add' ⟨e1,h⟩ ⟨e2,h'⟩
      refine ⟨e1.trans e2.symm,?_⟩
      rcases h with h | h <;> rcases h' with h' | h'
      · exact (hb.fr.one _ _ _ _ _ h h').2
      · exact ((hb.fr.fam qq β add h).2 (hB1 β add' h')).elim
      · exact ((hb.fr.fam qq β add' h').2 (hB1 β add h)).elim
      · exact hB2 β add add' h h'
  cases h with
  | @le _ cells n h hp=>
    obtain ⟨h1,h2⟩:=mk (fun _ _=>False) (fun _ _ h=>h.elim) (fun _ _ _ h=>h.elim)
    have hsub:∀ β,¬ avo A σ L β → ¬ avo A ⟨fun _=>none,fun q β add=>q = qq ∧ (σ.fam qq β add ∨ False)⟩ [] β:=by
      rintro β hn (h' | h')
      · exact hn (.inl h')
      · exact hn (.inr (h1 β h'))
    refine ⟨_,h1,h2,?_⟩
    have h3:=h _ _ _ _ hv
    cases h3 with
    | fsE a cap hc=>exact .fsE a cap hc
    | fs hf hh hfr hl hv' hn hc hz=>exact .fs ⟨rfl,.inl hf⟩ hh hfr hl (fun i x v hx hv2=>(hv' i x v hx hv2).pure (withinL_get hp hx) hsub) hn hc hz
  | @rw l off n sz co cells part ys hl hp hin hpure hle=>
    cases hv with
    | rwE a hc=>
      obtain ⟨h1,h2⟩:=mk (fun _ _=>False) (fun _ _ h=>h.elim) (fun _ _ _ h=>h.elim)
      refine ⟨_,h1,h2,?_⟩
      have:part = []:=by rw [← hp];simp
      subst this
      have:ys = []:=List.eq_nil_of_length_eq_zero hle.1.symm
      subst this
      exact .fsE a 0 (by simp)
    | @rw _ _ _ _ _ β add size cap hs hn hc hsz=>
      rcases hb.all l cells hl with ⟨h3,h4⟩ | ⟨β',add',size',c,T,fr,hB⟩
      · rw [hs] at h3;simp at h3
      · have:=hB.sig;rw [hs] at this;simp at this
        obtain ⟨rfl,rfl,rfl⟩:=this
        obtain ⟨h1,h2⟩:=mk (fun γ ad=>γ = β ∧ ad = add + off) (by rintro γ ad ⟨rfl,rfl⟩;exact ⟨l,cells,add,size,hl,hs⟩) (by rintro γ a a' ⟨_,rfl⟩ ⟨_,rfl⟩;rfl)
        have hsub:∀ γ,¬ avo A σ L γ → ¬ avo A ⟨fun _=>none,fun q γ ad=>q = qq ∧ (σ.fam qq γ ad ∨ (γ = β ∧ ad = add + off))⟩ [] γ:=by
          rintro γ hn (h' | h')
          · exact hn (.inl h')
          · exact hn (.inr (h1 γ h'))
        refine ⟨_,h1,h2,?_⟩
        have hlen:part.length = n * sz:=by rw [← hp];simp;omega
        have get:∀ i x,part[i]? = some x → cells[off + i]? = some x:=by
          intro i x hx
          rw [← hp,List.getElem?_take] at hx
          split at hx
          · rw [List.getElem?_drop] at hx;exact hx
          · simp at hx
        have hfit:=hB.fits
        refine .fs (T:=T) (fr:=fr) (c:=c) ⟨rfl,.inr ⟨rfl,rfl⟩⟩ hB.heap (by rw [hB.hsz];exact hB.frs) (by rw [← hle.1,hlen,hB.hsz];omega) (fun i y v hy hv2=>?_) hn (by simp) (fun sz' h0 hsz'=>by
          rw [← hle.1,hlen] at hsz'
          have:sz = sz':=Nat.eq_of_mul_eq_mul_left h0 hsz'
          subst this;rw [hB.hsz];exact hsz)
        have hi:i < part.length:=by rw [hle.1];exact (List.getElem?_eq_some_iff.1 hy).1
        have hpi:=List.getElem?_eq_getElem hi
        obtain ⟨u,h5,h6⟩:=hB.vals _ _ (get i _ hpi)
        rw [← Nat.add_assoc] at h5
        rw [h5] at hv2;simp at hv2;subst hv2
        exact hle.2 i _ y hpi hy _ _ _ _ (h6.pure (withinL_get hpure hpi) hsub)
theorem ACalls_pureF {qq:Nat} {E:Env} {f:FuncId} {fn:Func} {c:Code} {args:List PV} {v:PV} (hf:E.P.funcs[f]? = some fn) (hb:fn.body = some c) (hn:args.length ≤ fn.ntmps)
    (h:AW (E.on none none) (fun _=>False) fn.ntmps c (RetsF qq (E.on none none) fn v) (entry args 0) []):Pure E f args v:=by
  intro A w σ cargs hl hv hbr hg
  refine calls_of_wp hf hb (wpIn_wide.1 (wpIn_mono (h A w σ _ ⟨?_,hbr,hg,rfl⟩ ?_) ?_))
  · intro t x hx
    obtain ⟨h1,h2⟩:=lget_entry args 0 t x hx
    simp at h2
    have ht:t < cargs.length:=by rw [hl];exact (List.getElem?_eq_some_iff.1 h2).1
    exact ⟨cargs[t],by rw [Array.getElem?_append_left (by simpa using ht)];simp [ht],hv t x _ h2 (List.getElem?_eq_getElem ht)⟩
  · simp;omega
  · rintro e a' w' ⟨al',L',σ',⟨he,x,hx,hz⟩,r',g',t'⟩
    obtain ⟨u,h1,h2⟩:=run_results r' hx
    obtain ⟨σf,k1,k2,k3⟩:=hz.ok r'.blocks h2
    have hgr:Grow (fun l=>lget ([]:Lb) l ≠ none) w σ [] w' σf []:=⟨g'.size,fun l y hk=>absurd rfl hk,fun β hb hn=>⟨fun h=>(g'.keep β hb hn).1 (k1 β h),(g'.keep β hb hn).2⟩,g'.out,fun hk=>absurd rfl hk⟩
    cases e with
    | normal=>exact ⟨r'.nodefer,u,h1,_,u,[],σf,rfl,⟨rfl,rfl⟩,k3,k2,hgr⟩
    | ret=>exact ⟨r'.nodefer,u,h1,_,u,[],σf,rfl,⟨rfl,rfl⟩,k3,k2,hgr⟩
    | _=>exact he.elim
theorem Weak.virt {E:Env} {K:Nat → Prop} {al:Al} {L:Lb} {l:Nat} (h:lget L l = none):Weak E K al L al (lset L l (some [])):=fun A w σ a r=>by
  obtain ⟨b1,b2⟩:=r.blocks.virtual h
  exact ⟨σ,r.grow b1 b2,b2.weaken fun _ _=>trivial⟩
def virtK {R:Type}:List Nat → DLb → (DLb → Option R) → Option R
  | [],L,k=>k L
  | v :: r,L,k=>match lget L v with
    | none=>virtK r (lset L v (.cs [])) k
    | some _=>none
theorem virtK_ok {E:Env} {K:Nat → Prop} {R:Type} {r:R} {al:Al}:∀ {vs:List Nat} {L:DLb} {k:DLb → Option R},virtK vs L k = some r → lbOk L →
    ∃ L',k L' = some r ∧ lbOk L' ∧ (∀ l,l ∉ vs → lget L' l = lget L l) ∧ Weak E K al (dlb L) al (dlb L')
  | [],L,k,h,hL=>⟨L,h,hL,fun _ _=>rfl,.refl⟩
  | v :: vs,L,k,h,hL=>by
    simp only [virtK] at h
    split at h
    · rename_i hv
      obtain ⟨L',h1,h2,h3,h4⟩:=virtK_ok (E:=E) (K:=K) (al:=al) h (fun l c hc=>by
        rw [lget_lset] at hc
        split at hc
        · simp at hc;subst hc;trivial
        · exact hL l c hc)
      refine ⟨L',h1,h2,fun l hl=>?_,?_⟩
      · simp only [List.mem_cons,not_or] at hl
        rw [h3 l hl.2,lget_lset,if_neg (fun e=>hl.1 e.symm)]
      · refine Weak.trans ?_ h4
        have e:dlb (lset L v (.cs [])) = lset (dlb L) v (some []):=(lset_map DC.pv L v (.cs [])).symm
        rw [e]
        exact Weak.virt (by rw [lget_dlb,hv];rfl)
    · simp at h
def dres (P:Program) (s:St):List ResultVar → Option (List DV)
  | []=>some []
  | .tmp t :: r=>match lget s.al t with
    | some x=>match dres P s r with
      | some xs=>some (x :: xs)
      | none=>none
    | none=>none
  | .cell t T :: r=>match lget s.al t with
    | some (.ptr l off)=>match lget s.L l with
      | some (.cs cs)=>match dpart P T cs off with
        | some x=>match dres P s r with
          | some xs=>some (x :: xs)
          | none=>none
        | none=>none
      | _=>none
    | _=>none
theorem dres_ok {P:Program} {s:St} (hs:s.ok):∀ {rs:List ResultVar} {xs:List DV},dres P s rs = some xs → xres P (dal s.al) (dlb s.L) rs = some (DV.pvs xs) ∧ DV.oks xs
  | [],xs,h=>by simp [dres] at h;subst h;exact ⟨rfl,trivial⟩
  | .tmp t :: r,xs,h=>by
    simp only [dres] at h
    split at h
    · rename_i x hx
      split at h
      · rename_i ys hy
        simp at h;subst h
        obtain ⟨h1,h2⟩:=dres_ok hs hy
        exact ⟨by simp [xres,lget_dal,hx,h1,DV.pvs],hs.1 _ _ hx,h2⟩
      · simp at h
    · simp at h
  | .cell t T :: r,xs,h=>by
    simp only [dres] at h
    split at h
    · rename_i l off ht
      split at h
      · rename_i cs hl
        split at h
        · rename_i x hx
          split at h
          · rename_i ys hy
            simp at h;subst h
            obtain ⟨h1,h2⟩:=dres_ok hs hy
            obtain ⟨_,e2,e3⟩:=dpart_ok (hs.2 _ _ hl) hx
            refine ⟨?_,e3,h2⟩
            simp only [xres,lget_dal,ht,Option.map_some,h1,DV.pvs,DV.pv]
            rw [xload_ro (cells:=DV.pvs cs) (off:=off) (by simp [lcells,lget_dlb,hl,DC.pv]),e2]
          · simp at h
        · simp at h
      · simp at h
    · simp at h
def dtup:List DV → DV
  | [x]=>x
  | xs=>.tup xs
theorem dtup_pv (xs:List DV):(dtup xs).pv = rtup (DV.pvs xs):=by
  cases xs with
  | nil=>rfl
  | cons x xs=>cases xs <;> rfl
def dentry:List DV → Nat → DAl
  | [],_=>[]
  | x :: r,i=>(i,x) :: dentry r (i + 1)
theorem dentry_pv:∀ (xs:List DV) (i:Nat),dal (dentry xs i) = entry (DV.pvs xs) i
  | [],_=>rfl
  | x :: r,i=>by show (i,x.pv) :: dal (dentry r (i + 1)) = _;rw [dentry_pv r];rfl
theorem dentry_ok:∀ {xs:List DV} {i:Nat},DV.oks xs → alOk (dentry xs i)
  | [],_,_=>fun t x h=>by simp [dentry,lget] at h
  | y :: r,i,h=>fun t x hx=>by
    simp only [dentry,lget] at hx
    split at hx
    · simp at hx;subst hx;exact h.1
    · exact dentry_ok h.2 t x hx
theorem mks_lenP {len:Nat → Nat}:∀ (ss:List Sh) (vs:List TV),(Sh.mks len ss vs).1.length = ss.length
  | [],vs=>rfl
  | s :: ss,vs=>by simp only [Sh.mks,List.length_cons];rw [mks_lenP]
/-- A function's run over typed values. -/
noncomputable def DF (E:Env) (G:GTab) (C:CT E) (n:Nat) (rs:List ResultVar) (c:Code) (h:Hint) (ar:List Sh) (out:Sh) (a:HT (Sh.hss ar)) (vs:List Nat:=[]):Option (HT out.hs):=
  let fin (s:St):Option (HT out.hs):=match dres E.P s rs with
    | some ds=>out.getB s.L (dtup ds) ⟨[],[],[]⟩ fun g=>pack out.hs g.vs
    | none=>none
  virtK vs [] fun L=>D E G C n c h (HT out.hs) [] ⟨dentry (Sh.mks dz0 ar (unpack _ a)).1 0,L,[],[]⟩ fin fun e s=>match e with
    | .ret=>fin s
    | _=>none
theorem DF_ok {E:Env} {G:GTab} {C:CT E} (h0:E.on none none = E) (hm:E.P.follows .mixedOrders = true) (hG:E.G = gtPV G) (hE:GOK E) {f:FuncId} {fn:Func} {c:Code} (hf:E.P.funcs[f]? = some fn) (hb:fn.body = some c)
    {h:Hint} {ar:List Sh} {out:Sh} {vs:List Nat} (hk:Sh.kOKs ar = true) (hn:ar.length ≤ fn.ntmps) {a:HT (Sh.hss ar)} {v:HT out.hs} (hv:DF E G C fn.ntmps fn.results.toList c h ar out a vs = some v) :
    Pure E f (DV.pvs (Sh.mks dz0 ar (unpack _ a)).1) (out.mk dz0 (unpack _ v)).1.pv:=by
  have hlen:∀ (ss:List Sh) (vs:List TV),(Sh.mks dz0 ss vs).1.length = ss.length:=by
    intro ss
    induction ss with
    | nil=>intro vs;rfl
    | cons s ss ih=>intro vs;simp only [Sh.mks,List.length_cons];rw [ih]
  refine ACalls_pureO hE hf hb (by rw [pvs_length,hlen];exact hn) ?_
  rw [h0,← dentry_pv]
  have hfin:∀ s:St,s.ok → (match dres E.P s fn.results.toList with
      | some ds=>out.getB s.L (dtup ds) ⟨[],[],[]⟩ fun g=>pack out.hs g.vs
      | none=>none) = some v → ∃ xs,xres E.P (dal s.al) (dlb s.L) fn.results.toList = some xs ∧ OutLe (dlb s.L) (rtup xs) (out.mk dz0 (unpack _ v)).1.pv:=by
    intro s hs hr
    split at hr
    · rename_i ds hds
      obtain ⟨h1,h2⟩:=dres_ok hs hds
      obtain ⟨g,hg,xs,e1,e2,e3⟩:=getB_ok out hr
      obtain ⟨_,e4,_⟩:=e3 dz0 []
      refine ⟨_,h1,?_⟩
      rw [← dtup_pv]
      have e5:g.vs = xs:=by rw [e1];rfl
      rw [List.append_nil,← e5,← pack_ok hg] at e4
      exact e4
    · simp at hr
  obtain ⟨L0,hv,hL0,_,hW⟩:=virtK_ok (E:=E) (K:=fun _=>False) (al:=dal (dentry (Sh.mks dz0 ar (unpack _ a)).1 0)) hv (fun l c hl=>by simp [lget] at hl)
  refine AW_weak hW ?_
  exact D_ok (s:=⟨dentry (Sh.mks dz0 ar (unpack _ a)).1 0,L0,[],[]⟩) (K:=fun _=>False) hm hG hE (fun _ h=>h.elim) c hv ⟨dentry_ok (mks_ok _ _ _ hk),hL0⟩
    (fun s' _ hok hr=>⟨trivial,hfin s' hok hr⟩) fun e s' hne _ hok hr=>by
      cases e with
      | ret=>exact ⟨trivial,hfin s' hok hr⟩
      | _=>simp at hr
/-- .. whose result goes into the first family. -/
def famK {R:Type} (qq:Nat) (rl:DLb) (t:ET) (d:DV) (kk:List t.T → Option R):Option R:=if t.noF = true then match d with
  | .nils=>kk []
  | .fsl q t' l=>if h:t' = t then if q = qq then kk (h ▸ l) else none else none
  | .rw lab sz off n co w=>if pureAt rl lab = true then srcL rl t (.rw lab sz off n co w) kk else none
  | _=>none else none
theorem famK_ok {R:Type} {r:R} {qq:Nat} {rl:DLb} {t:ET} {d:DV} {kk:List t.T → Option R} (h:famK qq rl t d kk = some r):∃ l,kk l = some r ∧ FamRes qq (dlb rl) d.pv (DV.fsl qq t l).pv:=by
  unfold famK at h
  split at h
  · rename_i ht
    split at h
    · exact ⟨[],h,.le .nilsFs rfl⟩
    · split at h
      · rename_i e;subst e
        split at h
        · rename_i e;subst e;exact ⟨_,h,.le (.refl _) (fl_noF ht _)⟩
        · simp at h
      · simp at h
    · split at h
      · rename_i hp
        obtain ⟨l,cells,hs,h'⟩:=srcL_ok h
        obtain ⟨cc,h1,h2,h3,h4,h5⟩:=hs.rw _ _ _ _ _ _ rfl
        subst h5;subst h3
        refine ⟨l,h',.rw h1 h4 h2 ?_ hs.le⟩
        rw [← h4]
        unfold pureAt at hp
        split at hp
        · rename_i c hc
          rw [lget_dlb,hc] at h1
          exact part_pure (dcPure_ok hp (by simpa using h1)) _ _
        · simp at hp
      · simp at h
    · simp at h
  · simp at h
noncomputable def DFF (E:Env) (G:GTab) (C:CT E) (n:Nat) (rs:List ResultVar) (c:Code) (h:Hint) (ar:List Sh) (qq:Nat) (t:ET) (a:HT (Sh.hss ar)) (vs:List Nat:=[]):Option (List t.T):=
  let fin (s:St):Option (List t.T):=match dres E.P s rs with
    | some [d]=>famK qq s.L t d some
    | _=>none
  virtK vs [] fun L=>D E G C n c h (List t.T) [] ⟨dentry (Sh.mks dz0 ar (unpack _ a)).1 0,L,[],[]⟩ fin fun e s=>match e with
    | .ret=>fin s
    | _=>none
theorem DFF_ok {E:Env} {G:GTab} {C:CT E} (h0:E.on none none = E) (hm:E.P.follows .mixedOrders = true) (hG:E.G = gtPV G) (hE:GOK E) {f:FuncId} {fn:Func} {c:Code} (hf:E.P.funcs[f]? = some fn) (hb:fn.body = some c)
    {h:Hint} {ar:List Sh} {qq:Nat} {t:ET} {vs:List Nat} (hk:Sh.kOKs ar = true) (hn:ar.length ≤ fn.ntmps) {a:HT (Sh.hss ar)} {v:List t.T} (hv:DFF E G C fn.ntmps fn.results.toList c h ar qq t a vs = some v) :
    Pure E f (DV.pvs (Sh.mks dz0 ar (unpack _ a)).1) (DV.fsl qq t v).pv:=by
  refine ACalls_pureF (qq:=qq) hf hb (by rw [pvs_length,mks_lenP];exact hn) ?_
  rw [h0,← dentry_pv]
  have hfin:∀ s:St,s.ok → (match dres E.P s fn.results.toList with
      | some [d]=>famK qq s.L t d some
      | _=>none) = some v → ∃ x,xres E.P (dal s.al) (dlb s.L) fn.results.toList = some [x] ∧ FamRes qq (dlb s.L) x (DV.fsl qq t v).pv:=by
    intro s hs hr
    split at hr
    · rename_i d hds
      obtain ⟨h1,h2⟩:=dres_ok hs hds
      obtain ⟨l,hl,hF⟩:=famK_ok hr
      simp at hl;subst hl
      exact ⟨_,h1,hF⟩
    · simp at hr
  obtain ⟨L0,hv,hL0,_,hW⟩:=virtK_ok (E:=E) (K:=fun _=>False) (al:=dal (dentry (Sh.mks dz0 ar (unpack _ a)).1 0)) hv (fun l c hl=>by simp [lget] at hl)
  refine AW_weak hW ?_
  exact D_ok (s:=⟨dentry (Sh.mks dz0 ar (unpack _ a)).1 0,L0,[],[]⟩) (K:=fun _=>False) hm hG hE (fun _ h=>h.elim) c hv ⟨dentry_ok (mks_ok _ _ _ hk),hL0⟩
    (fun s' _ hok hr=>⟨trivial,hfin s' hok hr⟩) fun e s' hne _ hok hr=>by
      cases e with
      | ret=>exact ⟨trivial,hfin s' hok hr⟩
      | _=>simp at hr
end Go.SH
namespace Go.SH
theorem ACalls_of_AWW {E:Env} {f:FuncId} {fn:Func} {c:Code} {args:List PV} {L L1:Lb} {al1:Al} {V:PV} (hf:E.P.funcs[f]? = some fn) (hb:fn.body = some c) (hn:args.length ≤ fn.ntmps) (hV:lget al1 0 = some V)
    (h:AW (E.on none none) (fun l=>lget L l ≠ none) fn.ntmps c (fun e al L'=>(match e with | .normal=>True | .ret=>True | _=>False) ∧ ∃ xs,xres E.P al L' fn.results.toList = some xs ∧ Weak (E.on none none) (fun l=>lget L l ≠ none) [(0,rtup xs)] L' al1 L1) (entry args 0) L) :
    ACalls E f args L fun x L'=>x = V ∧ L' = L1:=by
  intro A w σ cargs hl hv hbr hg
  refine calls_of_wp hf hb (wpIn_wide.1 (wpIn_mono (h A w σ _ ⟨?_,hbr,hg,rfl⟩ ?_) ?_))
  · intro t x hx
    obtain ⟨h1,h2⟩:=lget_entry args 0 t x hx
    simp at h2
    have ht:t < cargs.length:=by rw [hl];exact (List.getElem?_eq_some_iff.1 h2).1
    exact ⟨cargs[t],by rw [Array.getElem?_append_left (by simpa using ht)];simp [ht],hv t x _ h2 (List.getElem?_eq_getElem ht)⟩
  · simp;omega
  · rintro e a' w' ⟨al',L',σ',⟨he,xs,hx,hW⟩,r',g',t'⟩
    obtain ⟨v,h1,h2⟩:=run_results r' hx
    have r1:Rel (E.on none none) A w' σ' [(0,rtup xs)] L' { tmps:=#[v],defers:=a'.defers }:=⟨fun t x hx=>by
      simp only [lget] at hx
      split at hx
      · rename_i e;subst e;simp at hx;subst hx;exact ⟨v,rfl,h2⟩
      · simp at hx,r'.blocks,r'.globals,r'.nodefer⟩
    obtain ⟨σ2,r2,g2⟩:=hW A w' σ' _ r1
    obtain ⟨u,h3,h4⟩:=r2.tmps 0 V hV
    simp at h3;subst h3
    cases e with
    | normal=>exact ⟨r'.nodefer,v,h1,_,v,L1,σ2,rfl,⟨rfl,rfl⟩,h4,r2.blocks,g'.trans g2⟩
    | ret=>exact ⟨r'.nodefer,v,h1,_,v,L1,σ2,rfl,⟨rfl,rfl⟩,h4,r2.blocks,g'.trans g2⟩
    | _=>exact he.elim
theorem clone_law {α:Type} {a:List α} {c:Nat} {v:List α} (h:req (a.length * c ≤ maxBy) (some a) = some v) :
    (bif a.isEmpty then agree (some []) (req ((([]:List α) ++ a).length * c ≤ maxBy) <| req ((([]:List α) ++ a).length = (([]:List α) ++ a).length) (some (([]:List α) ++ a)))
      else req ((([]:List α) ++ a).length * c ≤ maxBy) <| req ((([]:List α) ++ a).length = (([]:List α) ++ a).length) (some (([]:List α) ++ a))) = some v:=by
  obtain ⟨hc,h⟩:=req_some h
  show (bif a.isEmpty then agree (some []) (req (a.length * c ≤ maxBy) <| req (a.length = a.length) (some a)) else req (a.length * c ≤ maxBy) <| req (a.length = a.length) (some a)) = some v
  rw [req_pos hc,req_pos rfl,h]
  cases a with
  | nil=>simp at h;subst h;exact agree_self _
  | cons x xs=>rfl
/-- A function's run over typed values, with the blocks it is handed. -/
noncomputable def DI (E:Env) (G:GTab) (C:CT E) (n:Nat) (rs:List ResultVar) (c:Code) (h:Hint) (ar:List Sh) (ls:List (Nat × LSh)) (ot:Tm) (a:HT (Sh.hss ar ++ hsL ls)) (vs:List Nat:=[]):Option ot.T:=
  let b:=inS ar ls (unpack _ a)
  let fin (s:St):Option ot.T:=match dres E.P s rs with
    | some ds=>ot.leafK (keys ls) b ⟨[(0,dtup ds)],s.L,[0],s.dl⟩ some
    | none=>none
  virtK vs b.L fun L=>D E G C n c h ot.T (keys ls) ⟨dentry (inA ar ls (unpack _ a)) 0,L,[],vs.map fun v=>(v,none)⟩ fin fun e s=>match e with
    | .ret=>fin s
    | _=>none
def slot0 (ot:Tm):Bool:=match ot.slots with
  | [(0,_)]=>true
  | _=>false
theorem dtup_ok {ds:List DV} (h:DV.oks ds):(dtup ds).ok:=by
  cases ds with
  | nil=>trivial
  | cons x xs=>cases xs with
    | nil=>exact h.1
    | cons y ys=>exact h
theorem resV_lget {ot:Tm} (h:slot0 ot = true) (v:ot.T) {b:St}:∃ V,lget (ot.app v b).al 0 = some V:=by
  unfold slot0 at h
  split at h
  · rename_i s hs
    have:∃ x r,(ot.app v b).al = (0,x) :: r:=by
      simp only [Tm.app,Tm.appL,hs,mkS,List.cons_append,List.nil_append]
      exact ⟨_,_,rfl⟩
    obtain ⟨x,r,e⟩:=this
    exact ⟨x,by rw [e];simp [lget]⟩
  · simp at h
theorem DI_ok {E:Env} {G:GTab} {C:CT E} (h0:E.on none none = E) (hm:E.P.follows .mixedOrders = true) (hG:E.G = gtPV G) (hE:GOK E) {f:FuncId} {fn:Func} {c:Code} (hf:E.P.funcs[f]? = some fn) (hb:fn.body = some c)
    {h:Hint} {ar:List Sh} {ls:List (Nat × LSh)} {ot:Tm} {vs:List Nat} (hk:Sh.kOKs ar = true ∧ (ls.all fun p=>p.2.kOK) = true ∧ slot0 ot = true ∧ decide (ar.length ≤ fn.ntmps) = true) {a:HT (Sh.hss ar ++ hsL ls)} {v:ot.T} (hv:DI E G C fn.ntmps fn.results.toList c h ar ls ot a vs = some v) :
    ACalls E f (DV.pvs (inA ar ls (unpack _ a))) (dlb (inL ar ls (unpack _ a))) fun x L=>x = (resV (ot.app v (inS ar ls (unpack _ a)))).pv ∧ L = dlb (ot.app v (inS ar ls (unpack _ a))).L:=by
  obtain ⟨hk1,hk2,hk3,hk4⟩:=hk
  simp only [decide_eq_true_eq] at hk4
  obtain ⟨V,hV⟩:=resV_lget hk3 v (b:=inS ar ls (unpack _ a))
  have hres:resV (ot.app v (inS ar ls (unpack _ a))) = V:=by unfold resV;rw [hV]
  rw [hres]
  have hbok:(inS ar ls (unpack _ a)).ok:=⟨fun t x hx=>by simp [inS,lget] at hx,fun l c hl=>mkL_okk hk2 (l,c) (mem_of_lget hl)⟩
  refine ACalls_of_AWW hf hb (by rw [pvs_length];unfold inA;rw [mks_len];exact hk4) (by rw [lget_dal,hV];rfl) ?_
  rw [h0,← dentry_pv]
  obtain ⟨L0,hv,hL0,hvs,hW⟩:=virtK_ok (E:=E) (K:=fun l=>lget (dlb (inL ar ls (unpack _ a))) l ≠ none) (al:=dal (dentry (inA ar ls (unpack _ a)) 0)) hv hbok.2
  refine AW_weak hW ?_
  have hbase:Ext ⟨dentry (inA ar ls (unpack _ a)) 0,(inS ar ls (unpack _ a)).L,[],[]⟩ ⟨dentry (inA ar ls (unpack _ a)) 0,L0,[],vs.map fun v=>(v,none)⟩:=by
    have hno:∀ {l:Nat},(l,none) ∉ (vs.map fun v=>((v,none):Nat × Option Nat)) → l ∉ vs:=fun {l} h hm=>h (List.mem_map.2 ⟨l,hm,rfl⟩)
    refine ⟨fun _ _=>rfl,fun l hl=>hvs l (hno (hl none)),fun l cs0 hl h0=>⟨cs0,?_,rfl,fun _ _=>rfl⟩⟩
    rw [← h0];exact hvs l (hno hl)
  have hfin:∀ s:St,Up ⟨dentry (inA ar ls (unpack _ a)) 0,L0,[],vs.map fun v=>(v,none)⟩ s → s.ok → (match dres E.P s fn.results.toList with
      | some ds=>ot.leafK (keys ls) (inS ar ls (unpack _ a)) ⟨[(0,dtup ds)],s.L,[0],s.dl⟩ some
      | none=>none) = some v → ∃ xs,xres E.P (dal s.al) (dlb s.L) fn.results.toList = some xs ∧ Weak E (fun l=>lget (dlb (inL ar ls (unpack _ a))) l ≠ none) [(0,rtup xs)] (dlb s.L) (dal (ot.app v (inS ar ls (unpack _ a))).al) (dlb (ot.app v (inS ar ls (unpack _ a))).L):=by
    intro s hu hs hr
    split at hr
    · rename_i ds hds
      obtain ⟨h1,h2⟩:=dres_ok hs hds
      refine ⟨_,h1,?_⟩
      obtain ⟨w,hw,hr⟩:=leafK_ok hr
      simp at hr;subst hr
      have he:=hu _ hbase
      have:=(leaf_ok (E:=E) (K:=fun l=>lget (dlb (inL ar ls (unpack _ a))) l ≠ none) hw ⟨fun t ht=>?_,he.lb,he.ce⟩ ⟨fun t x hx=>?_,hs.2⟩ hbok (fun l hl=>?_) hE).1
      · rw [← dtup_pv];exact this
      · simp only [List.mem_singleton] at ht
        simp [lget,inS,Ne.symm ht]
      · simp only [lget] at hx
        split at hx
        · simp at hx;subst hx
          exact dtup_ok h2
        · simp at hx
      · have:hasL (dlb (inL ar ls (unpack _ a))) l = true:=by simpa [hasL,Option.isSome_iff_ne_none] using hl
        rw [hasL_keys] at this
        unfold inL at this
        rw [show keys (mkL (inLen ar ls (unpack _ a)) ls (Sh.mks (inLen ar ls (unpack _ a)) ar (unpack _ a)).2).1 = keys ls from mkL_keys _ _ _] at this
        simpa using this
    · simp at hr
  exact D_ok (s:=⟨dentry (inA ar ls (unpack _ a)) 0,L0,[],vs.map fun v=>(v,none)⟩) hm hG hE (fun l hl=>by
      have:hasL (dlb (inL ar ls (unpack _ a))) l = true:=by simpa [hasL,Option.isSome_iff_ne_none] using hl
      rw [hasL_keys] at this
      unfold inL at this
      rw [show keys (mkL (inLen ar ls (unpack _ a)) ls (Sh.mks (inLen ar ls (unpack _ a)) ar (unpack _ a)).2).1 = keys ls from mkL_keys _ _ _] at this
      simpa using this) c hv ⟨dentry_ok (mks_ok _ _ _ hk1),hL0⟩
    (fun s' hu hok hr=>⟨trivial,hfin s' hu hok hr⟩) fun e s' hne hu hok hr=>by
      cases e with
      | ret=>exact ⟨trivial,hfin s' hu hok hr⟩
      | _=>simp at hr
end Go.SH
namespace Go.SH
/-- The label that a row is taken by. -/
def rlab:Nat:=50
def S0 (k:Nat):Bool:=noF k && k != rlab
/-- What stands beside: nothing of the first family. -/
def Oth (x:PV):Prop:=within S0 x = true ∨ ∃ c n co,x = .fs 2 c n co ∧ withinL (fun _=>false) c = true
theorem Oth.ok {w:World} {σ σ':Sig} {av av':Nat → Prop} {x:PV} {v:Value} (h:VR w σ av x v) (ho:Oth x) (hσ:∀ l,l ≠ rlab → σ' l = σ l) (hF:∀ β add,σ.fam 2 β add → σ'.fam 2 β add) (hav:∀ β,¬ av β → ¬ av' β):VR w σ' av' x v:=by
  rcases ho with ho | ⟨c,n,co,rfl,hc⟩
  · refine h.restrict (S:=S0) (fun l hl=>hσ l ?_) (fun h=>by simp [S0,noF] at h) hav ho
    simp only [S0,Bool.and_eq_true,bne_iff_ne] at hl
    exact hl.2
  · cases h with
    | fsE a cap hc=>exact .fsE a cap hc
    | fs hf hh hfr hl hv hn hc' hz=>exact .fs (hF _ _ hf) hh hfr hl (fun i x v hx hv'=>(hv i x v hx hv').pure (withinL_get hc hx) hav) hn hc' hz
theorem VR.fs_inv {w:World} {σ:Sig} {av:Nat → Prop} {q n:Nat} {cells:List PV} {co:Option Nat} {v:Value} (h:VR w σ av (.fs q cells n co) v) (h0:0 < n) :
    ∃ β add cap c T fr,v = .slice (some ⟨β,add,none⟩) n cap ∧ σ.fam q β add ∧ w.heap[β]? = some (.cells c T fr) ∧ (fr.1 = fr.2 ∨ c.size ≤ fr.1) ∧ add + cells.length ≤ c.size ∧
      (∀ (i:Nat) (x:PV) (v:Value),cells[i]? = some x → c[add + i]? = some v → VR w σ av x v) ∧ n ≤ cap ∧ ∀ sz,0 < n → cells.length = n * sz → add + cap * sz ≤ c.size:=by
  cases h with
  | fsE=>exact absurd rfl (Nat.ne_of_gt h0)
  | fs hf hh hfr hl hv hn hc hz=>exact ⟨_,_,_,_,_,_,rfl,hf,hh,hfr,hl,hv,hn,hz⟩
theorem VR.rw_inv {w:World} {σ:Sig} {av:Nat → Prop} {l off n sz:Nat} {co:Option Nat} {v:Value} (h:VR w σ av (.rw l off n sz co) v) (h0:0 < n) :
    ∃ β add size cap,v = .slice (some ⟨β,add + off,none⟩) n cap ∧ σ l = some (β,add,size) ∧ n ≤ cap ∧ add + off + cap * sz ≤ size:=by
  cases h with
  | rwE=>exact absurd rfl (Nat.ne_of_gt h0)
  | rw hs hn hc hsz=>exact ⟨_,_,_,_,rfl,hs,hn,hsz⟩
section
variable {E:Env} {K:Nat → Prop} {al:Al} {L:Lb} {T:ET}
theorem fl_tf (q:Nat) (l:List (List T.T)):fl (el (.tf q T)) l = l.map fun x=>PV.fs q (fl (el T) x) x.length none:=by
  induction l with
  | nil=>rfl
  | cons x l ih=>rw [fl_cons,ih];rfl
/-- A row, and those that lie where it does, by a label. -/
def Mixed (T:ET) (nn:Nat) (rows:List (List T.T)) (ds:List PV):Prop:=
  ds.length = rows.length ∧ ∀ (i:Nat) (l:List T.T),rows[i]? = some l → ds[i]? = some (.rw rlab 0 nn T.sz none) ∨ ds[i]? = some (.fs 1 (fl (el T) l) nn none)
theorem take_row {n:Nat} {c:Code} {Q:Exit → Al → Lb → Prop} (hE:GOK E) (hT:T.noF = true) {rows:List (List T.T)} (h1:lget L 1 = some (some (fl (el (.tf 1 T)) rows))) (h50:lget L rlab = none ∨ lget L rlab = some none) (hK:¬ K rlab) (hKf:¬ K fkeep)
    (hal:∀ t x,lget al t = some x → Oth x) (hoth:∀ k cells,k ≠ 1 → lget L k = some (some cells) → ∀ x ∈ cells,Oth x) {nn:Nat} (hnn:0 < nn) (hn:∀ l ∈ rows,l.length = nn) {r:Nat} {row:List T.T} (hr:rows[r]? = some row)
    (k:∀ ds,Mixed T nn rows ds → ds[r]? = some (.rw rlab 0 nn T.sz none) → AW E K n c Q al (lset (lset L 1 (some ds)) rlab (some (fl (el T) row)))):AW E K n c Q al L:=by
  classical
  intro A w σ a hrel ht
  have hbr:=hrel.blocks
  have hlen:∀ {i:Nat} {l:List T.T},rows[i]? = some l → l.length = nn:=fun h=>hn _ (List.mem_of_getElem? h)
  have hcell:∀ {i:Nat} {l:List T.T},rows[i]? = some l → (fl (el (.tf 1 T)) rows)[i]? = some (.fs 1 (fl (el T) l) nn none):=fun {i l} h=>by
    rw [fl_tf,List.getElem?_map,h];simp [hlen h]
  rcases hbr.all 1 _ h1 with ⟨h2,h3⟩ | ⟨β1,a1,s1,c1,T1,f1,hB⟩
  · have:=hcell hr;rw [h3] at this;simp at this
  obtain ⟨vr,hvr1,hvr2⟩:=hB.vals r _ (hcell hr)
  have hfl:∀ {l:List T.T},l.length = nn → (fl (el T) l).length = nn * T.sz:=fun h=>by rw [fl_length,el_sz,h]
  have hpos:0 < nn * T.sz:=Nat.mul_pos hnn T.sz_pos
  obtain ⟨β,add,cap,cc,Tt,fr,rfl,hf,hh,hfr,hl,hv,hncap,hz⟩:=hvr2.fs_inv hnn
  · skip
    let σ':Sig:=⟨fun k=>if k = rlab then some (β,add,cc.size) else σ k,fun q γ ad=>σ.fam q γ ad ∧ γ ≠ β⟩
    let P:Nat → Prop:=fun i=>∃ ad cp,c1[a1 + i]? = some (.slice (some ⟨β,ad,none⟩) nn cp)
    let ds:List PV:=(List.range rows.length).map fun i=>if P i then PV.rw rlab 0 nn T.sz none else .fs 1 (fl (el T) ((rows[i]?).getD [])) nn none
    have hdl:ds.length = rows.length:=by simp [ds]
    have hds:∀ {i:Nat} {l:List T.T},rows[i]? = some l → ds[i]? = some (if P i then PV.rw rlab 0 nn T.sz none else .fs 1 (fl (el T) l) nn none):=fun {i l} h=>by
      have hi:=(List.getElem?_eq_some_iff.1 h).1
      simp [ds,List.getElem?_range hi,h]
    have hmix:Mixed T nn rows ds:=⟨hdl,fun i l h=>by
      rw [hds h];by_cases hp:P i
      · left;rw [if_pos hp]
      · right;rw [if_neg hp]⟩
    have hdr:ds[r]? = some (.rw rlab 0 nn T.sz none):=by
      rw [hds hr,if_pos ⟨add,cap,hvr1⟩]
    suffices hs:Rel E A w σ' al (lset (lset L 1 (some ds)) rlab (some (fl (el T) row))) a ∧ Grow K w σ L w σ' (lset (lset L 1 (some ds)) rlab (some (fl (el T) row))) from
      wpIn_mono (k ds hmix hdr A w σ' a hs.1 ht) fun _ _ _ p=>Post.trans hs.2 p
    have hβ:famOf σ β:=⟨1,add,hf⟩
    have hnl:¬ labOf σ L β:=(hbr.fr.fam 1 β add hf).2
    have hne1:(1:Nat) ≠ rlab:=by decide
    have hL':∀ k,lget (lset (lset L 1 (some ds)) rlab (some (fl (el T) row))) k = if k = rlab then some (some (fl (el T) row)) else if k = 1 then some (some ds) else lget L k:=fun k=>by
      rw [lget_lset,lget_lset]
      by_cases e:k = rlab
      · simp [e]
      · rw [if_neg (fun h=>e h.symm),if_neg e]
        by_cases e1:k = 1
        · simp [e1]
        · rw [if_neg (fun h=>e1 h.symm),if_neg e1]
    have hσo:∀ l,l ≠ rlab → σ' l = σ l:=fun l h=>by simp [σ',h]
    have hσr:σ' rlab = some (β,add,cc.size):=by simp [σ']
    have hlav:∀ γ,labOf σ' (lset (lset L 1 (some ds)) rlab (some (fl (el T) row))) γ ↔ (labOf σ L γ ∨ γ = β):=by
      intro γ
      constructor
      · rintro ⟨l,c,x,s,e1,e2⟩
        rw [hL'] at e1
        by_cases e:l = rlab
        · subst e;rw [hσr] at e2;simp at e2;exact .inr e2.1.symm
        · rw [if_neg e] at e1;rw [hσo l e] at e2
          by_cases e3:l = 1
          · subst e3;exact .inl ⟨1,_,x,s,h1,e2⟩
          · rw [if_neg e3] at e1;exact .inl ⟨l,c,x,s,e1,e2⟩
      · rintro (⟨l,c,x,s,e1,e2⟩ | rfl)
        · have e:l ≠ rlab:=by rintro rfl;rcases h50 with h | h <;> rw [h] at e1 <;> simp at e1
          by_cases e3:l = 1
          · subst e3;exact ⟨1,ds,x,s,by rw [hL',if_neg e,if_pos rfl],by rw [hσo _ e];exact e2⟩
          · exact ⟨l,c,x,s,by rw [hL',if_neg e,if_neg e3];exact e1,by rw [hσo _ e];exact e2⟩
        · exact ⟨rlab,_,add,cc.size,by rw [hL',if_pos rfl],hσr⟩
    have hav:∀ γ,avOf σ' (lset (lset L 1 (some ds)) rlab (some (fl (el T) row))) γ ↔ avOf σ L γ:=by
      intro γ
      constructor
      · rintro (h | ⟨q,ad,h,_⟩)
        · rcases (hlav γ).1 h with h | rfl
          · exact .inl h
          · exact .inr hβ
        · exact .inr ⟨q,ad,h⟩
      · rintro (h | ⟨q,ad,h⟩)
        · exact .inl ((hlav γ).2 (.inl h))
        · by_cases e:γ = β
          · exact .inl ((hlav γ).2 (.inr e))
          · exact .inr ⟨q,ad,h,e⟩
    have havo:∀ γ,¬ avo A σ L γ → ¬ avo A σ' (lset (lset L 1 (some ds)) rlab (some (fl (el T) row))) γ:=fun γ hn h=>hn (h.imp id (hav γ).1)
    have hf2:∀ γ ad,σ.fam 2 γ ad → σ'.fam 2 γ ad:=fun γ ad h=>⟨h,fun e=>by subst e;have:=(hbr.fr.one 2 1 _ _ _ h hf).1;simp at this⟩
    refine ⟨?_,?_⟩
    · -- the state
      refine ⟨fun t x hx=>?_,⟨?_,?_,?_,?_,?_⟩,fun g cells hg=>Env.pureG hE hg (hrel.globals g cells hg) havo,hrel.nodefer⟩
      · obtain ⟨v,e1,e2⟩:=hrel.tmps t x hx
        exact ⟨v,e1,(hal t x hx).ok e2 hσo hf2 havo⟩
      · intro l cells e1
        rw [hL'] at e1
        by_cases e:l = rlab
        · subst e;simp at e1;subst e1
          refine .inr ⟨β,add,cc.size,cc,Tt,fr,⟨hσr,hh,rfl,hl,fun i x hx=>?_,hfr⟩⟩
          have hi:=(List.getElem?_eq_some_iff.1 hx).1
          have hci:add + i < cc.size:=by omega
          exact ⟨_,Array.getElem?_eq_getElem hci,(hv i x _ hx (Array.getElem?_eq_getElem hci)).pure (withinL_get (fl_noF hT _) hx) havo⟩
        · rw [if_neg e] at e1
          by_cases e3:l = 1
          · subst e3;simp at e1;subst e1
            refine .inr ⟨β1,a1,s1,c1,T1,f1,⟨by rw [hσo _ e];exact hB.sig,hB.heap,hB.hsz,?_,fun i x hx=>?_,hB.frs⟩⟩
            · have:=hB.fits;rw [fl_tf,List.length_map] at this;rw [hdl];exact this
            · have hi:i < rows.length:=by rw [← hdl];exact (List.getElem?_eq_some_iff.1 hx).1
              have hri:=List.getElem?_eq_getElem hi
              rw [hds hri] at hx
              obtain ⟨v,e4,e5⟩:=hB.vals i _ (hcell hri)
              refine ⟨v,e4,?_⟩
              obtain ⟨β',add',cap',cc',Tt',fr',rfl,hf',hh',hfr',hl',hv',hn',hz'⟩:=e5.fs_inv hnn
              · by_cases hp:P i
                · rw [if_pos hp] at hx;simp at hx;subst hx
                  obtain ⟨ad,cp,e6⟩:=hp
                  rw [e4] at e6;simp at e6
                  obtain ⟨⟨rfl,rfl⟩,rfl⟩:=e6
                  have:=(hbr.fr.one _ _ _ _ _ hf' hf).2
                  subst this
                  rw [hh] at hh';simp at hh';obtain ⟨rfl,rfl,rfl⟩:=hh'
                  exact .rw (off:=0) hσr hn' (by simp) (by have:=hz' T.sz hnn (hfl (hlen hri));omega)
                · rw [if_neg hp] at hx;simp at hx;subst hx
                  have hne:β' ≠ β:=fun e6=>hp ⟨add',cap',by rw [e4,e6]⟩
                  exact .fs ⟨hf',hne⟩ hh' hfr' hl' (fun i x v hx hv2=>(hv' i x v hx hv2).pure (withinL_get (fl_noF hT _) hx) havo) hn' (by simp) hz'
          · rw [if_neg e3] at e1
            rcases hbr.all l cells e1 with ⟨e4,e5⟩ | ⟨γ,ad,s,c,TT,f,hB'⟩
            · exact .inl ⟨by rw [hσo _ e];exact e4,e5⟩
            · exact .inr ⟨γ,ad,s,c,TT,f,⟨by rw [hσo _ e];exact hB'.sig,hB'.heap,hB'.hsz,hB'.fits,fun i x hx=>let ⟨v,e4,e5⟩:=hB'.vals i x hx;⟨v,e4,(hoth l cells e3 e1 x (List.mem_of_getElem? hx)).ok e5 hσo hf2 havo⟩,hB'.frs⟩⟩
      · have key:∀ {l c γ x s},lget (lset (lset L 1 (some ds)) rlab (some (fl (el T) row))) l = some (some c) → σ' l = some (γ,x,s) → l ≠ rlab → ∃ c',lget L l = some (some c') ∧ σ l = some (γ,x,s):=by
          intro l c γ x s e1 e2 e
          rw [hL',if_neg e] at e1;rw [hσo l e] at e2
          by_cases e3:l = 1
          · subst e3;exact ⟨_,h1,e2⟩
          · rw [if_neg e3] at e1;exact ⟨_,e1,e2⟩
        have keyr:∀ {l c γ x s},lget (lset (lset L 1 (some ds)) rlab (some (fl (el T) row))) l = some (some c) → σ' l = some (γ,x,s) → l ≠ rlab → γ ≠ β:=by
          rintro l c γ x s e1 e2 e rfl
          obtain ⟨c',e3,e4⟩:=key e1 e2 e
          exact hnl ⟨l,c',x,s,e3,e4⟩
        intro l l' c c' γ x s x' s' e1 e2 e3 e4
        by_cases d1:l = rlab
        · by_cases d2:l' = rlab
          · rw [d1,d2]
          · subst d1;rw [hσr] at e3;simp at e3
            exact absurd e3.1.symm (keyr e2 e4 d2)
        · by_cases d2:l' = rlab
          · subst d2;rw [hσr] at e4;simp at e4
            exact absurd e4.1.symm (keyr e1 e3 d1)
          · obtain ⟨_,k1,k2⟩:=key e1 e3 d1
            obtain ⟨_,k3,k4⟩:=key e2 e4 d2
            exact hbr.inj l l' _ _ γ x s x' s' k1 k3 k2 k4
      · intro l x hx
        rw [hL']
        by_cases e:l = rlab
        · simp [e]
        · rw [if_neg e];rw [hσo l e] at hx
          by_cases e3:l = 1
          · simp [e3]
          · rw [if_neg e3];exact hbr.dom l x hx
      · intro γ hA
        exact ⟨(hbr.lo γ hA).1,fun h=>(hbr.lo γ hA).2 ((hav γ).1 h)⟩
      · refine ⟨fun q γ ad h=>⟨(hbr.fr.fam q γ ad h.1).1,fun h2=>?_⟩,fun q γ ad h=>hbr.fr.cel q γ ad h.1,fun q q' γ ad ad' h h'=>hbr.fr.one q q' γ ad ad' h.1 h'.1⟩
        rcases (hlav γ).1 h2 with h2 | h2
        · exact (hbr.fr.fam q γ ad h.1).2 h2
        · exact h.2 h2
    · refine ⟨Nat.le_refl _,fun l y hk hy=>?_,fun γ hb hn=>⟨fun h=>hn ((hav γ).1 h),rfl⟩,⟨rfl,rfl,rfl⟩,fun h=>absurd h hKf⟩
      have e:l ≠ rlab:=by rintro rfl;exact hK hk
      rw [hσo l e];exact hy
/-- .. and back. -/
theorem put_row (hE:GOK E) (hT:T.noF = true) {ds:List PV} {nn:Nat} {rows:List (List T.T)} (hm:Mixed T nn rows ds) (h1:lget L 1 = some (some ds)) {cont:List T.T} (h50:lget L rlab = some (some (fl (el T) cont))) (hK:¬ K rlab) (hKf:¬ K fkeep)
    (hal:∀ t x,lget al t = some x → Oth x) (hoth:∀ k cells,k ≠ 1 → k ≠ rlab → lget L k = some (some cells) → ∀ x ∈ cells,Oth x) (hnn:0 < nn) (hn:∀ l ∈ rows,l.length = nn) (hcn:cont.length = nn)
    {rows':List (List T.T)} (hr1:rows'.length = rows.length) (hr2:∀ (i:Nat) (l l':List T.T),rows[i]? = some l → rows'[i]? = some l' → (ds[i]? = some (.rw rlab 0 nn T.sz none) ∧ l' = cont) ∨ (ds[i]? = some (.fs 1 (fl (el T) l) nn none) ∧ l' = l)) :
    Weak E K al L al (lset (lset L 1 (some (fl (el (.tf 1 T)) rows'))) rlab none):=by
  intro A w σ a hrel
  have hbr:=hrel.blocks
  have hpos:0 < nn * T.sz:=Nat.mul_pos hnn T.sz_pos
  have hfc:(fl (el T) cont).length = nn * T.sz:=by rw [fl_length,el_sz,hcn]
  rcases hbr.all rlab _ h50 with ⟨_,h3⟩ | ⟨β,add,size,cc,Tt,fr,hB⟩
  · rw [h3] at hfc;simp at hfc;omega
  let σ':Sig:=⟨fun k=>if k = rlab then none else σ k,fun q γ ad=>σ.fam q γ ad ∨ (q = 1 ∧ γ = β ∧ ad = add)⟩
  have hsg:=hB.sig
  have hlβ:labOf σ L β:=⟨rlab,_,add,size,h50,hsg⟩
  have hnf:∀ q ad,¬ σ.fam q β ad:=fun q ad h=>(hbr.fr.fam q β ad h).2 hlβ
  have hL':∀ k,lget (lset (lset L 1 (some (fl (el (.tf 1 T)) rows'))) rlab none) k = if k = rlab then some none else if k = 1 then some (some (fl (el (.tf 1 T)) rows')) else lget L k:=fun k=>by
    rw [lget_lset,lget_lset]
    by_cases e:k = rlab
    · simp [e]
    · rw [if_neg (fun h=>e h.symm),if_neg e]
      by_cases e1:k = 1
      · simp [e1]
      · rw [if_neg (fun h=>e1 h.symm),if_neg e1]
  have hσo:∀ l,l ≠ rlab → σ' l = σ l:=fun l h=>by simp [σ',h]
  have hlav:∀ γ,labOf σ' (lset (lset L 1 (some (fl (el (.tf 1 T)) rows'))) rlab none) γ ↔ (labOf σ L γ ∧ γ ≠ β):=by
    intro γ
    constructor
    · rintro ⟨l,c,x,s,e1,e2⟩
      rw [hL'] at e1
      by_cases e:l = rlab
      · subst e;simp at e1
      · rw [if_neg e] at e1;rw [hσo l e] at e2
        have hne:∀ c',lget L l = some (some c') → γ ≠ β:=by
          rintro c' e3 rfl
          exact e (hbr.inj l rlab _ _ _ x s add size e3 h50 e2 hsg)
        by_cases e3:l = 1
        · subst e3;exact ⟨⟨1,_,x,s,h1,e2⟩,hne _ h1⟩
        · rw [if_neg e3] at e1;exact ⟨⟨l,c,x,s,e1,e2⟩,hne _ e1⟩
    · rintro ⟨⟨l,c,x,s,e1,e2⟩,hne⟩
      have e:l ≠ rlab:=by rintro rfl;rw [hsg] at e2;simp at e2;exact hne e2.1.symm
      by_cases e3:l = 1
      · subst e3;exact ⟨1,_,x,s,by rw [hL',if_neg e,if_pos rfl],by rw [hσo _ e];exact e2⟩
      · exact ⟨l,c,x,s,by rw [hL',if_neg e,if_neg e3];exact e1,by rw [hσo _ e];exact e2⟩
  have hav:∀ γ,avOf σ' (lset (lset L 1 (some (fl (el (.tf 1 T)) rows'))) rlab none) γ ↔ avOf σ L γ:=by
    intro γ
    constructor
    · rintro (h | ⟨q,ad,h | ⟨_,rfl,_⟩⟩)
      · exact .inl ((hlav γ).1 h).1
      · exact .inr ⟨q,ad,h⟩
      · exact .inl hlβ
    · rintro (h | ⟨q,ad,h⟩)
      · by_cases e:γ = β
        · exact .inr ⟨1,add,.inr ⟨rfl,e,rfl⟩⟩
        · exact .inl ((hlav γ).2 ⟨h,e⟩)
      · exact .inr ⟨q,ad,.inl h⟩
  have havo:∀ γ,¬ avo A σ L γ → ¬ avo A σ' (lset (lset L 1 (some (fl (el (.tf 1 T)) rows'))) rlab none) γ:=fun γ hn h=>hn (h.imp id (hav γ).1)
  have hf2:∀ γ ad,σ.fam 2 γ ad → σ'.fam 2 γ ad:=fun γ ad h=>.inl h
  refine ⟨σ',⟨fun t x hx=>?_,⟨?_,?_,?_,?_,?_⟩,fun g cells hg=>Env.pureG hE hg (hrel.globals g cells hg) havo,hrel.nodefer⟩,⟨Nat.le_refl _,fun l y hk hy=>?_,fun γ hb hn=>⟨fun h=>hn ((hav γ).1 h),rfl⟩,⟨rfl,rfl,rfl⟩,fun h=>absurd h hKf⟩⟩
  · obtain ⟨v,e1,e2⟩:=hrel.tmps t x hx
    exact ⟨v,e1,(hal t x hx).ok e2 hσo hf2 havo⟩
  · intro l cells e1
    rw [hL'] at e1
    by_cases e:l = rlab
    · subst e;simp at e1
    · rw [if_neg e] at e1
      by_cases e3:l = 1
      · subst e3;simp at e1;subst e1
        rcases hbr.all 1 _ h1 with ⟨h2,h3⟩ | ⟨β1,a1,s1,c1,T1,f1,hB1⟩
        · refine .inl ⟨by rw [hσo _ e];exact h2,?_⟩
          have:=hm.1;rw [h3] at this;simp at this
          have:rows' = []:=List.eq_nil_of_length_eq_zero (by rw [hr1];exact this.symm)
          subst this;rfl
        · refine .inr ⟨β1,a1,s1,c1,T1,f1,⟨by rw [hσo _ e];exact hB1.sig,hB1.heap,hB1.hsz,?_,fun i x hx=>?_,hB1.frs⟩⟩
          · have:=hB1.fits;rw [hm.1] at this;rw [fl_tf,List.length_map,hr1];exact this
          · rw [fl_tf,List.getElem?_map] at hx
            cases hl':rows'[i]? with
            | none=>rw [hl'] at hx;simp at hx
            | some l'=>
              rw [hl'] at hx;simp at hx;subst hx
              have hi:i < rows.length:=by rw [← hr1];exact (List.getElem?_eq_some_iff.1 hl').1
              have hri:=List.getElem?_eq_getElem hi
              rcases hr2 i _ l' hri hl' with ⟨h4,rfl⟩ | ⟨h4,rfl⟩
              · obtain ⟨v,e4,e5⟩:=hB1.vals i _ h4
                obtain ⟨β2,add2,size2,cap,rfl,h5,h6,h7⟩:=e5.rw_inv hnn
                rw [hsg] at h5;simp at h5;obtain ⟨rfl,rfl,rfl⟩:=h5
                refine ⟨_,e4,?_⟩
                rw [hcn]
                refine .fs (c:=cc) (T:=Tt) (fr:=fr) (.inr ⟨rfl,rfl,rfl⟩) hB.heap (by rw [hB.hsz];exact hB.frs) (by have:=hB.fits;rw [hB.hsz];simpa using this) (fun i x v hx hv=>?_) h6 (by simp) (fun sz' _ hsz'=>?_)
                · obtain ⟨u,h8,h9⟩:=hB.vals i x hx
                  simp only [Nat.add_zero] at hv
                  rw [h8] at hv;simp at hv;subst hv
                  exact h9.pure (withinL_get (fl_noF hT _) hx) havo
                · rw [hfc] at hsz'
                  have:T.sz = sz':=Nat.eq_of_mul_eq_mul_left hnn hsz'
                  subst this;rw [hB.hsz];exact h7
              · obtain ⟨v,e4,e5⟩:=hB1.vals i _ h4
                refine ⟨v,e4,?_⟩
                rw [hn _ (List.mem_of_getElem? hri)]
                obtain ⟨β2,add2,cap2,cc2,Tt2,fr2,rfl,hf',hh',hfr',hl2,hv',hn',hz'⟩:=e5.fs_inv hnn
                exact .fs (.inl hf') hh' hfr' hl2 (fun i x v hx hv2=>(hv' i x v hx hv2).pure (withinL_get (fl_noF hT _) hx) havo) hn' (by simp) hz'
      · rw [if_neg e3] at e1
        rcases hbr.all l cells e1 with ⟨e4,e5⟩ | ⟨γ,ad,s,c,TT,f,hB'⟩
        · exact .inl ⟨by rw [hσo _ e];exact e4,e5⟩
        · exact .inr ⟨γ,ad,s,c,TT,f,⟨by rw [hσo _ e];exact hB'.sig,hB'.heap,hB'.hsz,hB'.fits,fun i x hx=>let ⟨v,e4,e5⟩:=hB'.vals i x hx;⟨v,e4,(hoth l cells e3 e e1 x (List.mem_of_getElem? hx)).ok e5 hσo hf2 havo⟩,hB'.frs⟩⟩
  · have key:∀ {l c γ x s},lget (lset (lset L 1 (some (fl (el (.tf 1 T)) rows'))) rlab none) l = some (some c) → σ' l = some (γ,x,s) → ∃ c',lget L l = some (some c') ∧ σ l = some (γ,x,s):=by
      intro l c γ x s e1 e2
      rw [hL'] at e1
      by_cases e:l = rlab
      · subst e;simp at e1
      · rw [if_neg e] at e1;rw [hσo l e] at e2
        by_cases e3:l = 1
        · subst e3;exact ⟨_,h1,e2⟩
        · rw [if_neg e3] at e1;exact ⟨_,e1,e2⟩
    intro l l' c c' γ x s x' s' e1 e2 e3 e4
    obtain ⟨_,k1,k2⟩:=key e1 e3
    obtain ⟨_,k3,k4⟩:=key e2 e4
    exact hbr.inj l l' _ _ γ x s x' s' k1 k3 k2 k4
  · intro l x hx
    rw [hL']
    by_cases e:l = rlab
    · simp [e]
    · rw [if_neg e];rw [hσo l e] at hx
      by_cases e3:l = 1
      · simp [e3]
      · rw [if_neg e3];exact hbr.dom l x hx
  · intro γ hA
    exact ⟨(hbr.lo γ hA).1,fun h=>(hbr.lo γ hA).2 ((hav γ).1 h)⟩
  · refine ⟨?_,?_,?_⟩
    · rintro q γ ad (h | ⟨rfl,rfl,rfl⟩)
      · exact ⟨(hbr.fr.fam q γ ad h).1,fun h2=>(hbr.fr.fam q γ ad h).2 ((hlav γ).1 h2).1⟩
      · exact ⟨(Array.getElem?_eq_some_iff.1 hB.heap).1,fun h2=>((hlav _).1 h2).2 rfl⟩
    · rintro q γ ad (h | ⟨rfl,rfl,rfl⟩)
      · exact hbr.fr.cel q γ ad h
      · exact ⟨_,_,_,hB.heap⟩
    · rintro q q' γ ad ad' (h | ⟨rfl,rfl,rfl⟩) (h' | ⟨rfl,h7,rfl⟩)
      · exact hbr.fr.one q q' γ ad ad' h h'
      · subst h7;exact (hnf q ad h).elim
      · exact (hnf q' ad' h').elim
      · exact ⟨rfl,rfl⟩
  · have e:l ≠ rlab:=by rintro rfl;exact hK hk
    rw [hσo l e];exact hy
end
end Go.SH
namespace Go.SH
theorem lset_skip {α:Type} {k:Nat} {y:α}:∀ {L:List (Nat × α)} (M:List (Nat × α)),lget L k = none → lset (L ++ M) k y = L ++ lset M k y
  | [],M,_=>rfl
  | (j,x) :: r,M,h=>by
    simp only [lget] at h
    split at h
    · simp at h
    · rename_i e
      simp only [List.cons_append,lset,if_neg e]
      rw [lset_skip M h]
theorem mixed_pvs {T:ET} {nn:Nat} {rows:List (List T.T)} {ds:List PV} (hm:Mixed T nn rows ds) (hn:∀ l ∈ rows,l.length = nn):∃ dds,ds = DV.pvs dds ∧ DV.oks dds:=by
  have key:∀ ds:List PV,(∀ x ∈ ds,∃ d:DV,d.pv = x ∧ d.ok) → ∃ dds,ds = DV.pvs dds ∧ DV.oks dds:=by
    intro ds
    induction ds with
    | nil=>intro _;exact ⟨[],rfl,trivial⟩
    | cons x r ih=>
      intro h
      obtain ⟨d,rfl,hd⟩:=h x (by simp)
      obtain ⟨e,rfl,he⟩:=ih fun y hy=>h y (by simp [hy])
      exact ⟨d :: e,rfl,hd,he⟩
  refine key ds fun x hx=>?_
  obtain ⟨i,hi⟩:=List.getElem?_of_mem hx
  have hl:i < rows.length:=by rw [← hm.1];exact (List.getElem?_eq_some_iff.1 hi).1
  have hr:=List.getElem?_eq_getElem hl
  rcases hm.2 i _ hr with h | h
  · rw [hi] at h;simp at h;subst h
    exact ⟨.rw rlab T.sz 0 nn none true,by simp [DV.pv],trivial⟩
  · rw [hi] at h;simp at h;subst h
    exact ⟨.fsl 1 T rows[i],by simp [DV.pv,hn _ (List.getElem_mem hl)],trivial⟩
section
variable {E:Env} {K:Nat → Prop} {n:Nat} {T:ET}
def alA (N:Nat) (r:Int):Al:=[(9,.rw 1 0 N 1 none),(10,.int .i64 N),(11,.int .i64 r),(0,.ptr 0 0)]
def lF (c0:List PV) (Lr:Lb) (rows:List (List T.T)) (tl:Lb):Lb:=(0,some c0) :: (1,some (fl (el (.tf 1 T)) rows)) :: (Lr ++ tl)
def lM (c0:List PV) (Lr:Lb) (ds:List PV) (cont:List T.T):Lb:=(0,some c0) :: (1,some ds) :: (Lr ++ [(rlab,some (fl (el T) cont))])
theorem alA_oth {N:Nat} {r:Int} (t:Nat) (x:PV) (h:lget (alA N r) t = some x):Oth x:=by
  left
  simp only [alA,lget] at h
  split at h
  · simp at h;subst h;rfl
  · split at h
    · simp at h;subst h;rfl
    · split at h
      · simp at h;subst h;rfl
      · split at h
        · simp at h;subst h;rfl
        · simp at h
/-- The rows are gone over. -/
theorem rows_loop (hE:GOK E) (hT:T.noF = true) (hK:¬ K rlab) (hKf:¬ K fkeep) {N nn:Nat} (hnn:0 < nn) {c0:List PV} {Lr:Lb} (hc0:∀ x ∈ c0,Oth x) (hLr:∀ k cells,lget Lr k = some (some cells) → ∀ x ∈ cells,Oth x)
    (hk1:lget Lr 1 = none) (hk50:lget Lr rlab = none) {ec:T.T} {r1 r2 c3 r8:Code} {j0 j1:Nat}
    (h1:∀ (r:Int) (rows:List (List T.T)) (tl:Lb),(tl = [] ∨ tl = [(rlab,none)]) → AW E K n r1 (fun e al L=>e = .normal ∧ Weak E K al L ((12,.bool (decide (r < N))) :: alA N r) (lF c0 Lr rows tl)) (alA N r) (lF c0 Lr rows tl))
    (h8:∀ (r:Int) (rows:List (List T.T)) (tl:Lb),(tl = [] ∨ tl = [(rlab,none)]) → 0 ≤ r → r < N → AW E K n r8 (fun e al L=>e = .normal ∧ Weak E K al L (alA N (r + 1)) (lF c0 Lr rows tl)) (alA N r) (lF c0 Lr rows tl))
    (h2:∀ (r:Nat) (ds:List PV) (cont:List T.T),ds.length = N → ds[r]? = some (.rw rlab 0 nn T.sz none) → AW E K n r2 (fun e al L=>e = .normal ∧ Weak E K al L ((3,.rw rlab 0 nn T.sz none) :: alA N r) (lM c0 Lr ds cont)) (alA N r) (lM c0 Lr ds cont))
    (h3:∀ (r:Int) (ds:List PV) (cont:List T.T),(∃ dds,ds = DV.pvs dds ∧ DV.oks dds) → ds.length = N → cont.length = nn → AW E K n c3 (fun e al L=>e = .normal ∧ Weak E K al L (alA N r) (lM c0 Lr ds (List.replicate nn ec))) ((3,.rw rlab 0 nn T.sz none) :: alA N r) (lM c0 Lr ds cont))
    {rows:List (List T.T)} (hN:rows.length = N) (hn:∀ l ∈ rows,l.length = nn) :
    AW E K n (.block j0 (.loop (.seq r1 (.seq (.cond (.tmp 12) .skip (.exit j0)) (.seq (.block j1 (.seq r2 c3)) r8))))) (fun e al L=>e = .normal ∧ ∃ r tl,(tl = [] ∨ tl = [(rlab,none)]) ∧ Weak E K al L (alA N r) (lF c0 Lr (List.replicate N (List.replicate nn ec)) tl)) (alA N 0) (lF c0 Lr rows []):=by
  classical
  let Qf:Exit → Al → Lb → Prop:=fun e al L=>e = .normal ∧ ∃ r tl,(tl = [] ∨ tl = [(rlab,none)]) ∧ Weak E K al L (alA N r) (lF c0 Lr (List.replicate N (List.replicate nn ec)) tl)
  let I:Al → Lb → Prop:=fun al L=>∃ (r:Nat) (rows:List (List T.T)) (tl:Lb),(tl = [] ∨ tl = [(rlab,none)]) ∧ r ≤ N ∧ rows.length = N ∧ (∀ l ∈ rows,l.length = nn) ∧ (∀ i,i < r → rows[i]? = some (List.replicate nn ec)) ∧ al = alA N r ∧ L = lF c0 Lr rows tl
  let μ:Al → Lb → Nat:=fun al L=>match lget al 11 with
    | some (.int _ k)=>((N:Int) - k).toNat
    | _=>0
  refine AW_block (AW_loop I μ ⟨0,rows,[],.inl rfl,Nat.zero_le _,hN,hn,fun i hi=>absurd hi (Nat.not_lt_zero _),rfl,rfl⟩ ?_)
  rintro al L ⟨r,rows,tl,htl,hrN,hN,hn,hdone,rfl,rfl⟩
  have hμ:μ (alA N r) (lF c0 Lr rows tl) = ((N:Int) - r).toNat:=rfl
  rw [hμ]
  have ne1:(1:Nat) ≠ rlab:=by decide
  have hFget:∀ k (tl:Lb),lget (lF c0 Lr rows tl) k = if 0 = k then some (some c0) else if 1 = k then some (some (fl (el (.tf 1 T)) rows)) else lget (Lr ++ tl) k:=fun k tl=>rfl
  refine AW_seq ((h1 r rows tl htl).mono ?_)
  rintro e al L ⟨rfl,hw⟩
  refine AW_weak hw (AW_seq (AW_cond (b:=decide ((r:Int) < N)) (by simp [lget]) (fun hb=>AW_skip ?_) fun hb=>AW_exit ?_))
  · have hlt:r < N:=by simpa using hb
    refine AW_weak (Weak.sub (al':=alA N r) fun p hp=>by
      simp only [alA,List.mem_cons,List.not_mem_nil,or_false] at hp
      rcases hp with rfl | rfl | rfl | rfl <;> rfl) ?_
    obtain ⟨row,hrow⟩:∃ row,rows[r]? = some row:=⟨rows[r]'(by omega),List.getElem?_eq_getElem (by omega)⟩
    refine take_row hE hT (rows:=rows) rfl ?_ hK hKf alA_oth ?_ hnn hn hrow fun ds hmix hdr=>?_
    · rw [hFget,if_neg (by decide),if_neg (by decide),lget_append,hk50]
      rcases htl with rfl | rfl
      · exact .inl rfl
      · exact .inr rfl
    · intro k cells hk hc x hx
      rw [hFget] at hc
      by_cases e0:0 = k
      · rw [if_pos e0] at hc;simp at hc;subst hc;exact hc0 x hx
      · rw [if_neg e0,if_neg (fun h=>hk h.symm),lget_append] at hc
        cases hq:lget Lr k with
        | some y=>rw [hq] at hc;simp at hc;subst hc;exact hLr k cells hq x hx
        | none=>
          rw [hq] at hc
          rcases htl with rfl | rfl
          · simp [lget] at hc
          · simp only [lget] at hc
            split at hc <;> simp at hc
    have hset:lset (lset (lF c0 Lr rows tl) 1 (some ds)) rlab (some (fl (el T) row)) = lM c0 Lr ds row:=by
      have e1:lset (lF c0 Lr rows tl) 1 (some ds) = ((0,some c0) :: (1,some ds) :: Lr) ++ tl:=rfl
      have e2:lget ((0,some c0) :: (1,some ds) :: Lr) rlab = none:=by
        simp only [lget];rw [if_neg (by decide),if_neg (by decide)];exact hk50
      rw [e1,lset_skip _ e2]
      rcases htl with rfl | rfl
      · rfl
      · rfl
    rw [hset]
    have hdl:ds.length = N:=by rw [hmix.1,hN]
    refine AW_seq (AW_block (AW_seq ((h2 r ds row hdl hdr).mono ?_)))
    rintro e al L ⟨rfl,hw2⟩
    refine AW_weak hw2 ((h3 r ds row (mixed_pvs hmix hn) hdl (hn _ (List.mem_of_getElem? hrow))).mono ?_)
    rintro e al L ⟨rfl,hw3⟩
    show AW E K n r8 _ al L
    let rows':List (List T.T):=(List.range N).map fun i=>if ds[i]? = some (.rw rlab 0 nn T.sz none) then List.replicate nn ec else (rows[i]?).getD []
    have hr':∀ {i:Nat} {l:List T.T},rows[i]? = some l → rows'[i]? = some (if ds[i]? = some (.rw rlab 0 nn T.sz none) then List.replicate nn ec else l):=fun {i l} h=>by
      have hi:i < N:=by rw [← hN];exact (List.getElem?_eq_some_iff.1 h).1
      simp [rows',List.getElem?_range hi,h]
    have hr'l:rows'.length = rows.length:=by simp [rows',hN]
    have hput:=put_row (E:=E) (K:=K) (al:=alA N r) (L:=lM c0 Lr ds (List.replicate nn ec)) hE hT hmix rfl (cont:=List.replicate nn ec) (by
        show lget _ rlab = _
        simp only [lM,lget];rw [if_neg (by decide),if_neg (by decide),lget_append,hk50];simp [lget]) hK hKf alA_oth (by
        intro k cells hk hk' hc x hx
        simp only [lM,lget] at hc
        by_cases e0:0 = k
        · rw [if_pos e0] at hc;simp at hc;subst hc;exact hc0 x hx
        · rw [if_neg e0,if_neg (fun h=>hk h.symm),lget_append] at hc
          cases hq:lget Lr k with
          | some y=>rw [hq] at hc;simp at hc;subst hc;exact hLr k cells hq x hx
          | none=>rw [hq] at hc;simp only [lget] at hc;rw [if_neg (fun h=>hk' h.symm)] at hc;simp at hc) hnn hn (by simp) hr'l (fun i l l' hl hl'=>by
        rw [hr' hl] at hl'
        by_cases hp:ds[i]? = some (.rw rlab 0 nn T.sz none)
        · rw [if_pos hp] at hl';simp at hl';exact .inl ⟨hp,hl'.symm⟩
        · rw [if_neg hp] at hl';simp at hl'
          rcases hmix.2 i l hl with h | h
          · exact absurd h hp
          · exact .inr ⟨h,hl'.symm⟩)
    have hset2:lset (lset (lM c0 Lr ds (List.replicate nn ec)) 1 (some (fl (el (.tf 1 T)) rows'))) rlab none = lF c0 Lr rows' [(rlab,none)]:=by
      have e1:lset (lM c0 Lr ds (List.replicate nn ec)) 1 (some (fl (el (.tf 1 T)) rows')) = ((0,some c0) :: (1,some (fl (el (.tf 1 T)) rows')) :: Lr) ++ [(rlab,some (fl (el T) (List.replicate nn ec)))]:=rfl
      have e2:lget ((0,some c0) :: (1,some (fl (el (.tf 1 T)) rows')) :: Lr) rlab = none:=by
        simp only [lget];rw [if_neg (by decide),if_neg (by decide)];exact hk50
      rw [e1,lset_skip _ e2];rfl
    rw [hset2] at hput
    refine AW_weak (hw3.trans hput) (AW_post (h8 r rows' [(rlab,none)] (.inr rfl) (by omega) (by omega)) ?_)
    rintro e al L ⟨rfl,hw8⟩
    refine ⟨_,_,hw8,⟨r + 1,rows',[(rlab,none)],.inr rfl,by omega,by rw [hr'l,hN],fun l hl=>?_,fun i hi=>?_,by simp,rfl⟩,?_⟩
    · obtain ⟨i,hi⟩:=List.getElem?_of_mem hl
      have hi2:i < rows.length:=by rw [← hr'l];exact (List.getElem?_eq_some_iff.1 hi).1
      rw [hr' (List.getElem?_eq_getElem hi2)] at hi
      simp at hi
      split at hi
      · rw [← hi];simp
      · rw [← hi];exact hn _ (List.getElem_mem _)
    · have hi2:i < rows.length:=by omega
      rw [hr' (List.getElem?_eq_getElem hi2)]
      by_cases hp:ds[i]? = some (.rw rlab 0 nn T.sz none)
      · rw [if_pos hp]
      · rw [if_neg hp]
        have:i < r:=by
          rcases Nat.lt_succ_iff_lt_or_eq.1 hi with h | h
          · exact h
          · subst h;exact absurd hdr hp
        have:=hdone i this
        rw [List.getElem?_eq_getElem hi2] at this
        exact this
    · show ((N:Int) - ((r:Int) + 1)).toNat < ((N:Int) - r).toNat
      omega
  · have hge:r = N:=by
      have:¬ r < N:=by simpa using hb
      omega
    subst hge
    have:rows = List.replicate r (List.replicate nn ec):=by
      refine List.ext_getElem? fun i=>?_
      by_cases hi:i < r
      · rw [hdone i hi,List.getElem?_replicate,if_pos hi]
      · rw [List.getElem?_eq_none (by omega),List.getElem?_replicate,if_neg hi]
    show ablock j0 Qf (.exit j0) _ _
    simp only [ablock,if_pos]
    refine ⟨rfl,r,tl,htl,?_⟩
    rw [← this]
    exact Weak.sub fun p hp=>by
      simp only [alA,List.mem_cons,List.not_mem_nil,or_false] at hp
      rcases hp with rfl | rfl | rfl | rfl <;> rfl
end
end Go.SH
namespace Go.SH
def al4 (N:Nat) (a b:Int):Al:=[(9,.rw 1 0 N 1 none),(10,.int .i64 a),(11,.int .i64 b),(0,.ptr 0 0)]
/-- The slots that a walk over rows keeps. -/
def pS (al:DAl):Option (Nat × Int × Int):=match lget al 9 with
  | some (.rw 1 1 0 n none _)=>match lget al 10 with
    | some (.int .i64 a)=>match lget al 11 with
      | some (.int .i64 b)=>match lget al 0 with
        | some (.ptr 0 0)=>some (n,a,b)
        | _=>none
      | _=>none
    | _=>none
  | _=>none
theorem pS_ok {al:DAl} {N:Nat} {a b:Int} (h:pS al = some (N,a,b)):lget al 9 = some (.rw 1 1 0 N none true) ∨ lget al 9 = some (.rw 1 1 0 N none false):=by
  unfold pS at h
  split at h
  · rename_i n w h9
    split at h
    · split at h
      · split at h
        · simp at h;obtain ⟨rfl,rfl,rfl⟩:=h
          cases w
          · exact .inr h9
          · exact .inl h9
        · simp at h
      · simp at h
    · simp at h
  · simp at h
theorem pS_get {al:DAl} {N:Nat} {a b:Int} (h:pS al = some (N,a,b)):∀ p ∈ al4 N a b,lget (dal al) p.1 = some p.2:=by
  have h9:lget (dal al) 9 = some (.rw 1 0 N 1 none):=by
    rcases pS_ok h with h | h <;> rw [lget_dal,h] <;> rfl
  unfold pS at h
  split at h
  · split at h
    · rename_i a' h10
      split at h
      · rename_i b' h11
        split at h
        · rename_i h0
          simp at h;obtain ⟨rfl,rfl,rfl⟩:=h
          intro p hp
          simp only [al4,List.mem_cons,List.not_mem_nil,or_false] at hp
          rcases hp with rfl | rfl | rfl | rfl
          · exact h9
          · rw [lget_dal,h10];rfl
          · rw [lget_dal,h11];rfl
          · rw [lget_dal,h0];rfl
        · simp at h
      · simp at h
    · simp at h
  · simp at h
def pA (s:St):Option (Nat × Int × Int):=match s.dl with
  | []=>pS s.al
  | _=>none
def pB (s:St):Option ((Nat × Int × Int) × Bool):=match s.dl with
  | []=>match lget s.al 12 with
    | some (.bool q)=>match pS s.al with
      | some x=>some (x,q)
      | none=>none
    | _=>none
  | _=>none
section
variable {E:Env} {K:Nat → Prop} {n:Nat} {G:GTab} {C:CT E} {ks:List Nat}
theorem same_L {s s':St} (hu:Up s s') (hd:s'.dl = []):∀ l,lget (dlb s.L) l = lget (dlb s'.L) l:=by
  intro l
  rw [lget_dlb,lget_dlb,(hu s (.refl s)).lb l (by simp [hd])]
theorem pieceA (hm:E.P.follows .mixedOrders = true) (hG:E.G = gtPV G) (hE:GOK E) (hK:∀ l,K l → l ∈ ks) {c:Code} {h:Hint} {s:St} {N:Nat} {a b:Int} (hr:D E G C n c h _ ks s pA (fun _ _=>none) = some (N,a,b)) (hs:s.ok) :
    AW E K n c (fun e al L=>e = .normal ∧ Weak E K al L (al4 N a b) (dlb s.L)) (dal s.al) (dlb s.L):=by
  refine D_ok hm hG hE hK c hr hs (fun s' hu _ hp=>⟨rfl,?_⟩) (fun _ _ _ _ _ h=>by simp at h)
  unfold pA at hp
  split at hp
  · rename_i hd
    exact (Weak.sub (pS_get hp)).trans (Weak.eqL (same_L hu hd))
  · simp at hp
theorem pieceB (hm:E.P.follows .mixedOrders = true) (hG:E.G = gtPV G) (hE:GOK E) (hK:∀ l,K l → l ∈ ks) {c:Code} {h:Hint} {s:St} {N:Nat} {a b:Int} {q:Bool} (hr:D E G C n c h _ ks s pB (fun _ _=>none) = some ((N,a,b),q)) (hs:s.ok) :
    AW E K n c (fun e al L=>e = .normal ∧ Weak E K al L ((12,.bool q) :: al4 N a b) (dlb s.L)) (dal s.al) (dlb s.L):=by
  refine D_ok hm hG hE hK c hr hs (fun s' hu _ hp=>⟨rfl,?_⟩) (fun _ _ _ _ _ h=>by simp at h)
  unfold pB at hp
  split at hp
  · rename_i hd
    split at hp
    · rename_i q' hq
      split at hp
      · rename_i x hx
        simp at hp;obtain ⟨rfl,rfl⟩:=hp
        refine (Weak.sub fun p h1=>?_).trans (Weak.eqL (same_L hu hd))
        rcases List.mem_cons.1 h1 with rfl | h1
        · rw [lget_dal,hq];rfl
        · exact pS_get hx p h1
      · simp at hp
    · simp at hp
  · simp at hp
end
/-- The rows, all of one cell. -/
def rowsOK {α:Type} (rows:List (List α)) (nn:Nat):Bool:=decide (0 < nn) && decide (nn ≤ 1000) && decide (rows.length ≤ 1000) && rows.all fun l=>decide (l.length = nn)
def fillL {R:Type} (T:ET) (ec:T.T) (L:DLb) (k:DLb → Option R):Option R:=match lget L 1 with
  | some (.ls t x)=>if h:t = .tf 1 T then
      let rows:List (List T.T):=(h ▸ x:List (ET.tf 1 T).T)
      if rowsOK rows (rows.headD []).length = true then k (lset L 1 (.ls (.tf 1 T) (rows.map fun l=>List.replicate l.length ec))) else none
    else none
  | _=>none
theorem fillL_ok {R:Type} {r:R} {T:ET} {ec:T.T} {L:DLb} {k:DLb → Option R} (h:fillL T ec L k = some r):∃ rows nn,lget L 1 = some (.ls (.tf 1 T) rows) ∧ rowsOK (α:=T.T) rows nn = true ∧ k (lset L 1 (.ls (.tf 1 T) (List.replicate rows.length (List.replicate nn ec)))) = some r:=by
  unfold fillL at h
  split at h
  · rename_i t x hl
    split at h
    · rename_i e;subst e
      simp only at h
      split at h
      · rename_i hr
        refine ⟨x,_,hl,hr,?_⟩
        have hr2:=hr
        simp only [rowsOK,Bool.and_eq_true,List.all_eq_true,decide_eq_true_eq] at hr2
        have e:(List.map (fun l:List T.T=>List.replicate l.length ec) x) = List.replicate (List.length x) (List.replicate (List.headD (x:List (List T.T)) []).length ec):=by
          refine List.ext_getElem? fun i=>?_
          rw [List.getElem?_map,List.getElem?_replicate]
          by_cases hi:i < List.length x
          · rw [if_pos hi,List.getElem?_eq_getElem hi]
            simp only [Option.map_some]
            rw [hr2.2 _ (List.getElem_mem hi)]
          · rw [if_neg hi,List.getElem?_eq_none (by omega)];rfl
        rw [← e];exact h
      · simp at h
    · simp at h
  · simp at h
noncomputable def DIA (E:Env) (G:GTab) (C:CT E) (n:Nat) (rs:List ResultVar) (c9:Code) (h:Hint) (ar:List Sh) (ls:List (Nat × LSh)) (ot:Tm) (T:ET) (ec:T.T) (a:HT (Sh.hss ar ++ hsL ls)):Option ot.T:=
  let b:=inS ar ls (unpack _ a)
  let fin (s:St):Option ot.T:=match dres E.P s rs with
    | some ds=>ot.leafK (keys ls) b ⟨[(0,dtup ds)],s.L,[0],s.dl⟩ some
    | none=>none
  fillL T ec b.L fun L=>D E G C n c9 h ot.T (keys ls) ⟨[(0,.ptr 0 0)],L,[],[(1,none)]⟩ fin fun e s=>match e with
    | .ret=>fin s
    | _=>none
def othD (d:DV):Bool:=d.labs S0 && d.noF
def othK:ET → Bool
  | .tf 2 t=>t.noF
  | t=>t.noF
theorem othK_ok {t:ET} (h:othK t = true) (l:List t.T):∀ x ∈ fl (el t) l,Oth x:=by
  intro x hx
  have key:t.noF = true → Oth x:=fun h=>by
    have:=fl_withinN (S:=S0) (.inl h) l
    rw [withinL_all] at this
    exact .inl (List.all_eq_true.1 this x hx)
  unfold othK at h
  split at h
  · rename_i t _
    rw [fl_tf] at hx
    obtain ⟨y,hy,rfl⟩:=List.mem_map.1 hx
    exact .inr ⟨_,_,_,rfl,fl_noF h y⟩
  · exact key h
def othC:DC → Bool
  | .gone=>true
  | .cs ds=>ds.all othD
  | .ls t _=>othK t
theorem othC_ok {c:DC} (h:othC c = true) {cells:List PV} (hc:c.pv = some cells):∀ x ∈ cells,Oth x:=by
  cases c with
  | gone=>simp [DC.pv] at hc
  | cs ds=>
    simp [DC.pv] at hc;subst hc
    intro x hx
    rw [pvs_eq] at hx
    obtain ⟨d,hd,rfl⟩:=List.mem_map.1 hx
    have:=List.all_eq_true.1 h d hd
    simp only [othD,Bool.and_eq_true] at this
    exact .inl (labs_withinN this.1 (.inl this.2))
  | ls t l=>
    simp [DC.pv] at hc;subst hc
    exact othK_ok h l
theorem keys_dlb (L:DLb) (l:Nat):hasL (dlb L) l = (keys L).elem l:=by rw [hasL_keys]
theorem DIA_ok {E:Env} {G:GTab} {C:CT E} (h0:E.on none none = E) (hm:E.P.follows .mixedOrders = true) (hG:E.G = gtPV G) (hE:GOK E) {f:FuncId} {fn:Func} {c:Code} (hf:E.P.funcs[f]? = some fn) (hb:fn.body = some c)
    {h:Hint} {ar:List Sh} {ls:List (Nat × LSh)} {ot:Tm} (hk:Sh.kOKs ar = true ∧ (ls.all fun p=>p.2.kOK) = true ∧ slot0 ot = true ∧ decide (ar.length ≤ fn.ntmps) = true) {a:HT (Sh.hss ar ++ hsL ls)} {v:ot.T}
    {T:ET} {ec:T.T} {r0 r1 r2 c3 r8 c9:Code} {j0 j1:Nat} (hc:c = .seq (.seq r0 (.block j0 (.loop (.seq r1 (.seq (.cond (.tmp 12) .skip (.exit j0)) (.seq (.block j1 (.seq r2 c3)) r8)))))) c9)
    (hT:T.noF = true) {c0:List DV} {rows:List (List T.T)} {Lr:DLb} (hL:(inS ar ls (unpack _ a)).L = (0,.cs c0) :: (1,.ls (.tf 1 T) rows) :: Lr) (hA:inA ar ls (unpack _ a) = [.ptr 0 0])
    (hks:(keys ls).elem rlab = false ∧ (keys ls).elem fkeep = false ∧ lget Lr 1 = none ∧ lget Lr rlab = none ∧ othC (.cs c0) = true ∧ Lr.all (fun p=>othC p.2) = true ∧
      (((0,.cs c0) :: (1,.ls (.tf 1 T) rows) :: Lr:DLb).all fun p=>dcLabsN (fun l=>(keys ((0,.cs c0) :: (1,.ls (.tf 1 T) rows) :: Lr:DLb)).elem l) p.2) = true)
    (p0:AW E (fun l=>lget (dlb (inL ar ls (unpack _ a))) l ≠ none) fn.ntmps r0 (fun e al L=>e = .normal ∧ Weak E (fun l=>lget (dlb (inL ar ls (unpack _ a))) l ≠ none) al L (alA rows.length 0) (lF (DV.pvs c0) (dlb Lr) rows [])) (entry [.ptr 0 0] 0) (lF (DV.pvs c0) (dlb Lr) rows []))
    (p1:∀ (r:Int) (rs:List (List T.T)) (tl:Lb),(tl = [] ∨ tl = [(rlab,none)]) → AW E (fun l=>lget (dlb (inL ar ls (unpack _ a))) l ≠ none) fn.ntmps r1 (fun e al L=>e = .normal ∧ Weak E (fun l=>lget (dlb (inL ar ls (unpack _ a))) l ≠ none) al L ((12,.bool (decide (r < rows.length))) :: alA rows.length r) (lF (DV.pvs c0) (dlb Lr) rs tl)) (alA rows.length r) (lF (DV.pvs c0) (dlb Lr) rs tl))
    (p8:rows.length ≤ 1000 → ∀ (r:Int) (rs:List (List T.T)) (tl:Lb),(tl = [] ∨ tl = [(rlab,none)]) → 0 ≤ r → r < rows.length → AW E (fun l=>lget (dlb (inL ar ls (unpack _ a))) l ≠ none) fn.ntmps r8 (fun e al L=>e = .normal ∧ Weak E (fun l=>lget (dlb (inL ar ls (unpack _ a))) l ≠ none) al L (alA rows.length (r + 1)) (lF (DV.pvs c0) (dlb Lr) rs tl)) (alA rows.length r) (lF (DV.pvs c0) (dlb Lr) rs tl))
    (p2:∀ (nn r:Nat) (ds:List PV) (cont:List T.T),ds.length = rows.length → ds[r]? = some (.rw rlab 0 nn T.sz none) → AW E (fun l=>lget (dlb (inL ar ls (unpack _ a))) l ≠ none) fn.ntmps r2 (fun e al L=>e = .normal ∧ Weak E (fun l=>lget (dlb (inL ar ls (unpack _ a))) l ≠ none) al L ((3,.rw rlab 0 nn T.sz none) :: alA rows.length r) (lM (DV.pvs c0) (dlb Lr) ds cont)) (alA rows.length r) (lM (DV.pvs c0) (dlb Lr) ds cont))
    (p3:∀ (nn:Nat) (r:Int) (dds:List DV) (cont:List T.T),DV.oks dds → nn ≤ 1000 → cont.length = nn → AW E (fun l=>lget (dlb (inL ar ls (unpack _ a))) l ≠ none) fn.ntmps c3 (fun e al L=>e = .normal ∧ Weak E (fun l=>lget (dlb (inL ar ls (unpack _ a))) l ≠ none) al L (alA rows.length r) (lM (DV.pvs c0) (dlb Lr) (DV.pvs dds) (List.replicate nn ec))) ((3,.rw rlab 0 nn T.sz none) :: alA rows.length r) (lM (DV.pvs c0) (dlb Lr) (DV.pvs dds) cont))
    (hv:DIA E G C fn.ntmps fn.results.toList c9 h ar ls ot T ec a = some v) :
    ACalls E f (DV.pvs (inA ar ls (unpack _ a))) (dlb (inL ar ls (unpack _ a))) fun x L=>x = (resV (ot.app v (inS ar ls (unpack _ a)))).pv ∧ L = dlb (ot.app v (inS ar ls (unpack _ a))).L:=by
  obtain ⟨hk1,hk2,hk3,hk4⟩:=hk
  simp only [decide_eq_true_eq] at hk4
  obtain ⟨V,hV⟩:=resV_lget hk3 v (b:=inS ar ls (unpack _ a))
  have hres:resV (ot.app v (inS ar ls (unpack _ a))) = V:=by unfold resV;rw [hV]
  rw [hres]
  have hbok:(inS ar ls (unpack _ a)).ok:=⟨fun t x hx=>by simp [inS,lget] at hx,fun l c hl=>mkL_okk hk2 (l,c) (mem_of_lget hl)⟩
  obtain ⟨q1,q2,q3,q4,q5,q6,q7⟩:=hks
  have hkeys:∀ l,lget (dlb (inL ar ls (unpack _ a))) l ≠ none → (keys ls).elem l = true:=fun l hl=>by
    have:hasL (dlb (inL ar ls (unpack _ a))) l = true:=by simpa [hasL,Option.isSome_iff_ne_none] using hl
    rw [hasL_keys] at this
    unfold inL at this
    rw [show keys (mkL (inLen ar ls (unpack _ a)) ls (Sh.mks (inLen ar ls (unpack _ a)) ar (unpack _ a)).2).1 = keys ls from mkL_keys _ _ _] at this
    exact this
  have hK50:¬ lget (dlb (inL ar ls (unpack _ a))) rlab ≠ none:=fun h=>by have:=hkeys _ h;rw [q1] at this;simp at this
  have hKf:¬ lget (dlb (inL ar ls (unpack _ a))) fkeep ≠ none:=fun h=>by have:=hkeys _ h;rw [q2] at this;simp at this
  refine ACalls_of_AWW hf hb (by rw [pvs_length];unfold inA;rw [mks_len];exact hk4) (by rw [lget_dal,hV];rfl) ?_
  have hLe:inL ar ls (unpack _ a) = (0,.cs c0) :: (1,.ls (.tf 1 T) rows) :: Lr:=hL
  have hLp:dlb (inL ar ls (unpack _ a)) = lF (DV.pvs c0) (dlb Lr) rows []:=by rw [hLe];simp [lF,dlb,DC.pv]
  unfold DIA at hv
  obtain ⟨rs,nn,hl1,hro,h9⟩:=fillL_ok hv
  rw [hL] at hl1
  have hl1':(some (DC.ls (.tf 1 T) rows):Option DC) = some (.ls (.tf 1 T) rs):=hl1
  simp at hl1'
  have hrs:(rs:List (List T.T)) = rows:=hl1'.symm
  subst hrs
  simp only [rowsOK,Bool.and_eq_true,List.all_eq_true,decide_eq_true_eq] at hro
  obtain ⟨⟨⟨hnn,hn1⟩,hle⟩,hlen⟩:=hro
  rw [h0,hA,hc]
  show AW E (fun l=>lget (dlb (inL ar ls (unpack _ a))) l ≠ none) fn.ntmps _ _ (entry [.ptr 0 0] 0) (dlb (inL ar ls (unpack _ a)))
  rw [show AW E (fun l=>lget (dlb (inL ar ls (unpack _ a))) l ≠ none) fn.ntmps = AW E (fun l=>lget (dlb (inL ar ls (unpack _ a))) l ≠ none) fn.ntmps from rfl]
  have hLoop:=rows_loop (E:=E) (K:=fun l=>lget (dlb (inL ar ls (unpack _ a))) l ≠ none) (n:=fn.ntmps) hE hT hK50 hKf (N:=List.length rs) hnn (c0:=DV.pvs c0) (Lr:=dlb Lr) (othC_ok q5 rfl) (fun k cells hk=>by
      rw [lget_dlb] at hk
      cases hc:lget Lr k with
      | none=>rw [hc] at hk;simp at hk
      | some c=>rw [hc] at hk;simp at hk;exact othC_ok (List.all_eq_true.1 q6 _ (mem_of_lget hc)) hk) (by rw [lget_dlb,q3];rfl) (by rw [lget_dlb,q4];rfl) (ec:=ec) (j0:=j0) (j1:=j1) p1 (p8 hle) (p2 nn) (fun r ds cont hdd _ hcn=>by obtain ⟨dds,rfl,hdo⟩:=hdd;exact p3 nn r dds cont hdo hn1 hcn) (rows:=rs) rfl hlen
  have hstart:AW E (fun l=>lget (dlb (inL ar ls (unpack _ a))) l ≠ none) fn.ntmps (.seq (.seq r0 (.block j0 (.loop (.seq r1 (.seq (.cond (.tmp 12) .skip (.exit j0)) (.seq (.block j1 (.seq r2 c3)) r8)))))) c9)
      (fun e al L'=>(match e with | .normal=>True | .ret=>True | _=>False) ∧ ∃ xs,xres E.P al L' fn.results.toList = some xs ∧ Weak E (fun l=>lget (dlb (inL ar ls (unpack _ a))) l ≠ none) [(0,rtup xs)] L' (dal (ot.app v (inS ar ls (unpack _ a))).al) (dlb (ot.app v (inS ar ls (unpack _ a))).L)) (entry [.ptr 0 0] 0) (lF (DV.pvs c0) (dlb Lr) rs []):=by
    refine AW_seq (AW_seq (p0.mono ?_))
    rintro e al L ⟨rfl,hw⟩
    refine AW_weak hw (hLoop.mono ?_)
    rintro e al L ⟨rfl,r,tl,htl,hw⟩
    show AW E _ _ c9 _ al L
    refine AW_weak hw ?_
    have hdL:dlb (lset (inS ar ls (unpack _ a)).L 1 (.ls (.tf 1 T) (List.replicate (List.length rs) (List.replicate nn ec)))) = lF (DV.pvs c0) (dlb Lr) (List.replicate (List.length rs) (List.replicate nn ec)) []:=by
      rw [hL]
      simp [lset,lF,dlb,DC.pv]
    have htr:Weak E (fun l=>lget (dlb (inL ar ls (unpack _ a))) l ≠ none) (alA (List.length rs) r) (lF (DV.pvs c0) (dlb Lr) (List.replicate (List.length rs) (List.replicate nn ec)) tl) (dal [(0,.ptr 0 0)]) (lF (DV.pvs c0) (dlb Lr) (List.replicate (List.length rs) (List.replicate nn ec)) []):=by
      have hsub:∀ p ∈ dal [(0,DV.ptr 0 0)],lget (alA (List.length rs) r) p.1 = some p.2:=by
        intro p hp
        simp [dal,DV.pv] at hp
        subst hp;rfl
      rcases htl with rfl | rfl
      · exact Weak.sub hsub
      · have hkk:∀ l,hasL (lF (DV.pvs c0) (dlb Lr) (List.replicate (List.length rs) (List.replicate nn ec)) []) l = (keys ((0,.cs c0) :: (1,.ls (.tf 1 T) rs) :: Lr:DLb)).elem l:=by
          intro l
          rw [← hdL,keys_dlb,hL];rfl
        refine Weak.trim hsub (fun l y hl=>?_) (fun l hl=>?_) ?_ ?_ hE
        · simp only [lF,lget] at hl ⊢
          by_cases e0:0 = l
          · rw [if_pos e0] at hl ⊢;exact hl
          · rw [if_neg e0] at hl ⊢
            by_cases e1:1 = l
            · rw [if_pos e1] at hl ⊢;exact hl
            · rw [if_neg e1] at hl ⊢
              rw [List.append_nil] at hl
              rw [lget_append,hl]
        · left
          have:=hkeys l hl
          have h2:hasL (lF (DV.pvs c0) (dlb Lr) (List.replicate (List.length rs) (List.replicate nn ec)) []) l = true:=by
            rw [hkk]
            have h3:hasL (dlb (inL ar ls (unpack _ a))) l = true:=by simpa [hasL,Option.isSome_iff_ne_none] using hl
            rw [hLe,keys_dlb] at h3;exact h3
          simpa [hasL,Option.isSome_iff_ne_none] using h2
        · simp [dal,DV.pv,within,hkk,keys]
        · rw [List.all_eq_true]
          intro p hp
          have hp':p ∈ dlb (lset (inS ar ls (unpack _ a)).L 1 (.ls (.tf 1 T) (List.replicate (List.length rs) (List.replicate nn ec)))):=by rw [hdL];exact hp
          rw [hL] at hp'
          have hSe:hasL (lF (DV.pvs c0) (dlb Lr) (List.replicate (List.length rs) (List.replicate nn ec)) []) = fun l=>(keys ((0,.cs c0) :: (1,.ls (.tf 1 T) rs) :: Lr:DLb)).elem l:=funext hkk
          rw [hSe]
          obtain ⟨⟨k,cc⟩,hq,rfl⟩:=List.mem_map.1 hp'
          simp only [lset] at hq
          rw [if_neg (by decide)] at hq
          simp only [if_true] at hq
          have hall:=List.all_eq_true.1 q7
          have key:dcLabsN (fun l=>(keys ((0,.cs c0) :: (1,.ls (.tf 1 T) rs) :: Lr:DLb)).elem l) cc = true:=by
            rcases List.mem_cons.1 hq with e | hq
            · simp at e;obtain ⟨rfl,rfl⟩:=e;exact hall (0,.cs c0) (by simp)
            · rcases List.mem_cons.1 hq with e | hq
              · simp at e;obtain ⟨rfl,rfl⟩:=e
                exact hall (1,.ls (.tf 1 T) rs) (by simp)
              · exact hall (k,cc) (by simp [hq])
          simp only
          cases hcc:cc.pv with
          | none=>rfl
          | some cells=>
            simp only
            cases cc with
            | gone=>simp [DC.pv] at hcc
            | cs ds=>simp [DC.pv] at hcc;subst hcc;exact labsL_within key
            | ls t x=>
              simp [DC.pv] at hcc;subst hcc
              simp only [dcLabsN,Bool.or_eq_true] at key
              exact fl_withinN key _
    refine AW_weak htr ?_
    rw [← hdL]
    have hfin:∀ s:St,Up ⟨[(0,.ptr 0 0)],lset (inS ar ls (unpack _ a)).L 1 (.ls (.tf 1 T) (List.replicate (List.length rs) (List.replicate nn ec))),[],[(1,none)]⟩ s → s.ok → (match dres E.P s fn.results.toList with
        | some ds=>ot.leafK (keys ls) (inS ar ls (unpack _ a)) ⟨[(0,dtup ds)],s.L,[0],s.dl⟩ some
        | none=>none) = some v → ∃ xs,xres E.P (dal s.al) (dlb s.L) fn.results.toList = some xs ∧ Weak E (fun l=>lget (dlb (inL ar ls (unpack _ a))) l ≠ none) [(0,rtup xs)] (dlb s.L) (dal (ot.app v (inS ar ls (unpack _ a))).al) (dlb (ot.app v (inS ar ls (unpack _ a))).L):=by
      intro s hu hs hr
      split at hr
      · rename_i ds hds
        obtain ⟨h1,h2⟩:=dres_ok hs hds
        refine ⟨_,h1,?_⟩
        obtain ⟨w,hw,hr⟩:=leafK_ok hr
        simp at hr;subst hr
        have hbase:Ext ⟨[(0,.ptr 0 0)],(inS ar ls (unpack _ a)).L,[],[]⟩ ⟨[(0,.ptr 0 0)],lset (inS ar ls (unpack _ a)).L 1 (.ls (.tf 1 T) (List.replicate (List.length rs) (List.replicate nn ec))),[],[(1,none)]⟩:=by
          refine ⟨fun _ _=>rfl,fun l hl=>?_,fun l cs0 hl h0=>⟨cs0,?_,rfl,fun _ _=>rfl⟩⟩
          · rw [lget_lset,if_neg];rintro rfl;exact hl none (by simp)
          · rw [← h0];show lget (lset _ _ _) l = _;rw [lget_lset,if_neg];rintro rfl;exact hl (by simp)
        have he:=hu _ hbase
        have:=(leaf_ok (E:=E) (K:=fun l=>lget (dlb (inL ar ls (unpack _ a))) l ≠ none) hw ⟨fun t ht=>?_,he.lb,he.ce⟩ ⟨fun t x hx=>?_,hs.2⟩ hbok (fun l hl=>?_) hE).1
        · rw [← dtup_pv];exact this
        · simp only [List.mem_singleton] at ht
          simp [lget,inS,Ne.symm ht]
        · simp only [lget] at hx
          split at hx
          · simp at hx;subst hx
            exact dtup_ok h2
          · simp at hx
        · have:=hkeys l hl
          simpa using this
      · simp at hr
    exact D_ok (s:=⟨[(0,.ptr 0 0)],lset (inS ar ls (unpack _ a)).L 1 (.ls (.tf 1 T) (List.replicate (List.length rs) (List.replicate nn ec))),[],[(1,none)]⟩) hm hG hE (fun l hl=>by
        have:=hkeys l hl
        simpa using this) c9 h9 ⟨fun t x hx=>by
          simp only [lget] at hx
          split at hx
          · simp at hx;subst hx;trivial
          · simp at hx,fun l c hc=>by
          rw [lget_lset] at hc
          split at hc
          · simp at hc;subst hc;trivial
          · exact hbok.2 l c hc⟩
      (fun s' hu hok hr=>⟨trivial,hfin s' hu hok hr⟩) fun e s' hne hu hok hr=>by
        cases e with
        | ret=>exact ⟨trivial,hfin s' hu hok hr⟩
        | _=>simp at hr
  rw [hLp] at hstart ⊢
  exact hstart
end Go.SH
namespace Go.SH
section
variable {E:Env} {K:Nat → Prop} {n:Nat} {T:ET}
def alI (N:Nat) (r:Int) (nn:Nat) (k:Int):Al:=(17,.int .i64 k) :: (16,.int .i64 nn) :: (3,.rw rlab 0 nn T.sz none) :: alA N r
theorem fill_row {N nn:Nat} {r:Int} {c0:List PV} {Lr:Lb} {ds:List PV} {ec:T.T} {r3 r4 r5 r7:Code} {j2 j3:Nat} (hn1:nn ≤ 1000)
    (h3:∀ cont:List T.T,AW E K n r3 (fun e al L=>e = .normal ∧ Weak E K al L (alI (T:=T) N r nn 0) (lM c0 Lr ds cont)) ((3,.rw rlab 0 nn T.sz none) :: alA N r) (lM c0 Lr ds cont))
    (h4:∀ (k:Int) (cont:List T.T),AW E K n r4 (fun e al L=>e = .normal ∧ Weak E K al L ((18,.bool (decide (k < nn))) :: alI (T:=T) N r nn k) (lM c0 Lr ds cont)) (alI (T:=T) N r nn k) (lM c0 Lr ds cont))
    (h5:∀ (k:Nat) (cont:List T.T),k < nn → cont.length = nn → AW E K n r5 (fun e al L=>e = .normal ∧ Weak E K al L (alI (T:=T) N r nn k) (lM c0 Lr ds (cont.set k ec))) (alI (T:=T) N r nn k) (lM c0 Lr ds cont))
    (h7:∀ (k:Int) (cont:List T.T),0 ≤ k → k < 1000 → AW E K n r7 (fun e al L=>e = .normal ∧ Weak E K al L (alI (T:=T) N r nn (k + 1)) (lM c0 Lr ds cont)) (alI (T:=T) N r nn k) (lM c0 Lr ds cont))
    {cont:List T.T} (hc:cont.length = nn) :
    AW E K n (.seq r3 (.block j2 (.loop (.seq r4 (.seq (.cond (.tmp 18) .skip (.exit j2)) (.seq (.block j3 r5) r7)))))) (fun e al L=>e = .normal ∧ Weak E K al L (alA N r) (lM c0 Lr ds (List.replicate nn ec))) ((3,.rw rlab 0 nn T.sz none) :: alA N r) (lM c0 Lr ds cont):=by
  classical
  let Qf:Exit → Al → Lb → Prop:=fun e al L=>e = .normal ∧ Weak E K al L (alA N r) (lM c0 Lr ds (List.replicate nn ec))
  refine AW_seq ((h3 cont).mono ?_)
  rintro e al L ⟨rfl,hw⟩
  refine AW_weak hw ?_
  let I:Al → Lb → Prop:=fun al L=>∃ (k:Nat) (cont:List T.T),k ≤ nn ∧ cont.length = nn ∧ (∀ i,i < k → cont[i]? = some ec) ∧ al = alI (T:=T) N r nn k ∧ L = lM c0 Lr ds cont
  let μ:Al → Lb → Nat:=fun al L=>match lget al 17 with
    | some (.int _ k)=>((nn:Int) - k).toNat
    | _=>0
  refine AW_block (AW_loop I μ ⟨0,cont,Nat.zero_le _,hc,fun i hi=>absurd hi (Nat.not_lt_zero _),rfl,rfl⟩ ?_)
  rintro al L ⟨k,cont,hkn,hcn,hdone,rfl,rfl⟩
  have hμ:μ (alI (T:=T) N r nn k) (lM c0 Lr ds cont) = ((nn:Int) - k).toNat:=rfl
  rw [hμ]
  refine AW_seq ((h4 k cont).mono ?_)
  rintro e al L ⟨rfl,hw⟩
  refine AW_weak hw (AW_seq (AW_cond (b:=decide ((k:Int) < nn)) (by simp [lget]) (fun hb=>AW_skip ?_) fun hb=>AW_exit ?_))
  · have hlt:k < nn:=by simpa using hb
    refine AW_weak (Weak.sub (al':=alI (T:=T) N r nn k) fun p hp=>by
      simp only [alI,alA,List.mem_cons,List.not_mem_nil,or_false] at hp
      rcases hp with rfl | rfl | rfl | rfl | rfl | rfl | rfl <;> rfl) ?_
    refine AW_seq (AW_block ((h5 k cont hlt hcn).mono ?_))
    rintro e al L ⟨rfl,hw2⟩
    show AW E K n r7 _ al L
    refine AW_weak hw2 (AW_post (h7 k (cont.set k ec) (by omega) (by omega)) ?_)
    rintro e al L ⟨rfl,hw7⟩
    refine ⟨_,_,hw7,⟨k + 1,cont.set k ec,by omega,by simp [hcn],fun i hi=>?_,by simp,rfl⟩,?_⟩
    · by_cases e:k = i
      · subst e;rw [List.getElem?_set_self (by omega)]
      · rw [List.getElem?_set_ne e];exact hdone i (by omega)
    · show ((nn:Int) - ((k:Int) + 1)).toNat < ((nn:Int) - k).toNat
      omega
  · have hge:k = nn:=by
      have:¬ k < nn:=by simpa using hb
      omega
    subst hge
    have:cont = List.replicate k ec:=by
      refine List.ext_getElem? fun i=>?_
      by_cases hi:i < k
      · rw [hdone i hi,List.getElem?_replicate,if_pos hi]
      · rw [List.getElem?_eq_none (by omega),List.getElem?_replicate,if_neg hi]
    show ablock j2 Qf (.exit j2) _ _
    simp only [ablock,if_pos]
    refine ⟨rfl,?_⟩
    rw [← this]
    exact Weak.sub fun p hp=>by
      simp only [alA,List.mem_cons,List.not_mem_nil,or_false] at hp
      rcases hp with rfl | rfl | rfl | rfl <;> rfl
/-- A row's slice is read. -/
theorem row_op {id:Nat} {T1 e1:TypeId} {ie:TypeInfo} {t1 t2:TypeId} {s1 s2 s3:String} {f1 f2 f3:Array Edge} {t3:TypeId} {N nn r:Nat} {c0:List PV} {Lr:Lb} {ds:List PV} {cont:List T.T}
    (hT:E.P.underlying T1 = some (.slice e1)) (he:E.P.info? e1 = some ie) (hs:ie.size = 1) (hrow:rowOf E.P e1 = some false) (hn:14 < n) (hdl:ds.length = N) (hdr:ds[r]? = some (.rw rlab 0 nn T.sz none)) :
    AW E K n (.region id #[⟨some 13,.indexAddr T1 (.tmp 9) (.tmp 11),t1,s1,f1,none⟩,⟨some 14,.load e1 (.tmp 13),t2,s2,f2,none⟩,⟨some 3,.assign (.tmp 14),t3,s3,f3,none⟩] false) (fun e al L=>e = .normal ∧ Weak E K al L ((3,.rw rlab 0 nn T.sz none) :: alA N r) (lM c0 Lr ds cont)) (alA N r) (lM c0 Lr ds cont):=by
  have hlt:r < N:=by rw [← hdl];exact (List.getElem?_eq_some_iff.1 hdr).1
  refine AW_region ?_
  refine AWl_op (ra:=alA N r) (rl:=lM c0 Lr ds cont) (AOp_indexAddr (q:=.ptr 1 (0 + r * 1)) (p:=.rw 1 0 N 1 none) (k:=.i64) (i:=(r:Int)) (n:=N) rfl rfl hT he rfl (by omega) (by omega) (by rw [hs];rfl)) (by intro t h;simp at h;subst h;first | exact hn | exact Nat.lt_trans (by decide) hn) (fun _ _ h=>h) (fun _ _ h=>h) (by intro p hp;simp at hp) rfl ?_
  refine AWl_op (ra:=oset (some 13) (.ptr 1 (0 + r * 1)) (alA N r)) (rl:=lM c0 Lr ds cont) (AOp_load (q:=.ptr 1 (0 + r * 1)) (x:=.rw rlab 0 nn T.sz none) rfl ?_) (by intro t h;simp at h;subst h;first | exact hn | exact Nat.lt_trans (by decide) hn) (fun _ _ h=>h) (fun _ _ h=>h) (by intro p hp;simp at hp) rfl ?_
  · unfold xload
    simp only [lcells,lM,lget]
    rw [if_neg (by decide),if_pos trivial]
    simp only [he,hrow,Nat.zero_add,Nat.mul_one]
    exact hdr
  refine AWl_op (ra:=oset (some 14) (.rw rlab 0 nn T.sz none) (oset (some 13) (.ptr 1 (0 + r * 1)) (alA N r))) (rl:=lM c0 Lr ds cont) (AOp_assign (c:=.rw rlab 0 nn T.sz none) rfl) (by intro t h;simp at h;subst h;first | exact hn | exact Nat.lt_trans (by decide) hn) (fun _ _ h=>h) (fun _ _ h=>h) (by intro p hp;simp at hp) rfl ?_
  refine AWl_nil ⟨rfl,Weak.sub fun p hp=>?_⟩
  simp only [alA,List.mem_cons,List.not_mem_nil,or_false] at hp
  rcases hp with rfl | rfl | rfl | rfl | rfl <;> rfl
end
end Go.SH
namespace Go.SH
def cFst:Code → Code
  | .seq a _=>a
  | _=>.skip
def cSnd:Code → Code
  | .seq _ a=>a
  | _=>.skip
def opAt (c:Code) (i:Nat):Oper:=match c with
  | .region _ ops _=>(ops.toList[i]?).getD default
  | _=>default
def cIn:Code → Code
  | .block _ c=>c
  | .loop c=>c
  | _=>.skip
def pI (T:ET) (al:DAl):Option ((Nat × Int × Int) × (Nat × Int × Int)):=match lget al 17 with
  | some (.int .i64 k)=>match lget al 16 with
    | some (.int .i64 m)=>match lget al 3 with
      | some (.rw 50 sz 0 nn none _)=>if sz = T.sz then (match pS al with
        | some x=>some (x,(nn,m,k))
        | none=>none) else none
      | _=>none
    | _=>none
  | _=>none
theorem pI_get {T:ET} {al:DAl} {N nn:Nat} {r k:Int} (h:pI T al = some ((N,(N:Int),r),(nn,(nn:Int),k))):∀ p ∈ alI (T:=T) N r nn k,lget (dal al) p.1 = some p.2:=by
  unfold pI at h
  split at h
  · rename_i k' h17
    split at h
    · rename_i m h16
      split at h
      · rename_i sz nn' w h3
        split at h
        · rename_i hsz
          split at h
          · rename_i x hx
            simp at h
            obtain ⟨e1,rfl,rfl,rfl⟩:=h
            rw [e1] at hx
            intro p hp
            rcases List.mem_cons.1 hp with rfl | hp
            · rw [lget_dal,h17];rfl
            · rcases List.mem_cons.1 hp with rfl | hp
              · rw [lget_dal,h16];rfl
              · rcases List.mem_cons.1 hp with rfl | hp
                · rw [lget_dal,h3];simp [DV.pv,hsz,rlab]
                · exact pS_get hx p hp
          · simp at h
        · simp at h
      · simp at h
    · simp at h
  · simp at h
def pI1 (T:ET) (s:St):Option ((Nat × Int × Int) × (Nat × Int × Int)):=match s.dl with
  | []=>pI T s.al
  | _=>none
def pI2 (T:ET) (s:St):Option (((Nat × Int × Int) × (Nat × Int × Int)) × Bool):=match s.dl with
  | []=>match lget s.al 18 with
    | some (.bool q)=>match pI T s.al with
      | some x=>some (x,q)
      | none=>none
    | _=>none
  | _=>none
def pI3 (T:ET) (s:St):Option (((Nat × Int × Int) × (Nat × Int × Int)) × List T.T):=match s.dl.all (fun p=>Nat.beq p.1 rlab) with
  | true=>match lget s.L rlab with
    | some (.ls t l)=>if h:t = T then match pI T s.al with
      | some x=>some (x,h ▸ l)
      | none=>none else none
    | _=>none
  | false=>none
section
variable {E:Env} {K:Nat → Prop} {n:Nat} {G:GTab} {C:CT E} {ks:List Nat}
theorem pieceI1 (hm:E.P.follows .mixedOrders = true) (hG:E.G = gtPV G) (hE:GOK E) (hK:∀ l,K l → l ∈ ks) {T:ET} {c:Code} {h:Hint} {s:St} {N nn:Nat} {r k:Int} (hr:D E G C n c h _ ks s (pI1 T) (fun _ _=>none) = some ((N,(N:Int),r),(nn,(nn:Int),k))) (hs:s.ok) :
    AW E K n c (fun e al L=>e = .normal ∧ Weak E K al L (alI (T:=T) N r nn k) (dlb s.L)) (dal s.al) (dlb s.L):=by
  refine D_ok hm hG hE hK c hr hs (fun s' hu _ hp=>⟨rfl,?_⟩) (fun _ _ _ _ _ h=>by simp at h)
  unfold pI1 at hp
  split at hp
  · rename_i hd
    exact (Weak.sub (pI_get hp)).trans (Weak.eqL (same_L hu hd))
  · simp at hp
theorem pieceI2 (hm:E.P.follows .mixedOrders = true) (hG:E.G = gtPV G) (hE:GOK E) (hK:∀ l,K l → l ∈ ks) {T:ET} {c:Code} {h:Hint} {s:St} {N nn:Nat} {r k:Int} {q:Bool} (hr:D E G C n c h _ ks s (pI2 T) (fun _ _=>none) = some (((N,(N:Int),r),(nn,(nn:Int),k)),q)) (hs:s.ok) :
    AW E K n c (fun e al L=>e = .normal ∧ Weak E K al L ((18,.bool q) :: alI (T:=T) N r nn k) (dlb s.L)) (dal s.al) (dlb s.L):=by
  refine D_ok hm hG hE hK c hr hs (fun s' hu _ hp=>⟨rfl,?_⟩) (fun _ _ _ _ _ h=>by simp at h)
  unfold pI2 at hp
  split at hp
  · rename_i hd
    split at hp
    · rename_i q' hq
      split at hp
      · rename_i x hx
        simp at hp;obtain ⟨e,rfl⟩:=hp
        rw [e] at hx
        refine (Weak.sub fun p h1=>?_).trans (Weak.eqL (same_L hu hd))
        rcases List.mem_cons.1 h1 with rfl | h1
        · rw [lget_dal,hq];rfl
        · exact pI_get hx p h1
      · simp at hp
    · simp at hp
  · simp at hp
theorem pieceI3 (hm:E.P.follows .mixedOrders = true) (hG:E.G = gtPV G) (hE:GOK E) (hK:∀ l,K l → l ∈ ks) {T:ET} {c:Code} {h:Hint} {s:St} {N nn:Nat} {r k:Int} {l:List T.T} (hr:D E G C n c h _ ks s (pI3 T) (fun _ _=>none) = some (((N,(N:Int),r),(nn,(nn:Int),k)),l)) (hs:s.ok) :
    AW E K n c (fun e al L=>e = .normal ∧ Weak E K al L (alI (T:=T) N r nn k) (lset (dlb s.L) rlab (some (fl (el T) l)))) (dal s.al) (dlb s.L):=by
  refine D_ok hm hG hE hK c hr hs (fun s' hu _ hp=>⟨rfl,?_⟩) (fun _ _ _ _ _ h=>by simp at h)
  unfold pI3 at hp
  split at hp
  · rename_i hd
    split at hp
    · rename_i t l' hl
      split at hp
      · rename_i e;subst e
        split at hp
        · rename_i x hx
          simp at hp;obtain ⟨e,rfl⟩:=hp
          rw [e] at hx
          refine (Weak.sub (pI_get hx)).trans (Weak.eqL fun k=>?_)
          rw [lget_lset]
          by_cases e:rlab = k
          · subst e;rw [if_pos rfl,lget_dlb,hl];rfl
          · rw [if_neg e,lget_dlb,lget_dlb,(hu s (.refl s)).lb k fun i hi=>?_]
            have:=List.all_eq_true.1 hd _ hi
            exact e (Nat.eq_of_beq_eq_true this).symm
        · simp at hp
      · simp at hp
    · simp at hp
  · simp at hp
end
def sA0 (T:ET) (c0:List DV) (Lr:DLb) (rows:List (List T.T)):St:=⟨[(0,.ptr 0 0)],(0,.cs c0) :: (1,.ls (.tf 1 T) rows) :: Lr,[],[]⟩
def sA (T:ET) (c0:List DV) (Lr:DLb) (N:Nat) (r:Int) (rows:List (List T.T)) (tl:DLb):St:=
  ⟨[(9,.rw 1 1 0 N none true),(10,.int .i64 N),(11,.int .i64 r),(0,.ptr 0 0)],(0,.cs c0) :: (1,.ls (.tf 1 T) rows) :: (Lr ++ tl),[],[]⟩
def s3 (T:ET) (c0:List DV) (Lr:DLb) (N:Nat) (r:Int) (nn:Nat) (dds:List DV) (cont:List T.T):St:=
  ⟨[(3,.rw rlab T.sz 0 nn none true),(9,.rw 1 1 0 N none true),(10,.int .i64 N),(11,.int .i64 r),(0,.ptr 0 0)],(0,.cs c0) :: (1,.cs dds) :: (Lr ++ [(rlab,.ls T cont)]),[],[]⟩
def sI (T:ET) (c0:List DV) (Lr:DLb) (N:Nat) (r:Int) (nn:Nat) (k:Int) (dds:List DV) (cont:List T.T):St:=
  ⟨[(17,.int .i64 k),(16,.int .i64 nn),(3,.rw rlab T.sz 0 nn none true),(9,.rw 1 1 0 N none true),(10,.int .i64 N),(11,.int .i64 r),(0,.ptr 0 0)],(0,.cs c0) :: (1,.cs dds) :: (Lr ++ [(rlab,.ls T cont)]),[],[]⟩
theorem okAl {al:DAl} (h:∀ p ∈ al,p.2.ok):alOk al:=fun t x hx=>h (t,x) (mem_of_lget hx)
theorem okLb {L:DLb} (h:∀ p ∈ L,p.2.ok):lbOk L:=fun t x hx=>h (t,x) (mem_of_lget hx)
theorem kin {ar:List Sh} {ls:List (Nat × LSh)} {vs:List TV}:∀ l,lget (dlb (inL ar ls vs)) l ≠ none → l ∈ keys ls:=fun l hl=>by
  have:hasL (dlb (inL ar ls vs)) l = true:=by simpa [hasL,Option.isSome_iff_ne_none] using hl
  rw [hasL_keys] at this
  unfold inL at this
  rw [show keys (mkL (inLen ar ls vs) ls (Sh.mks (inLen ar ls vs) ar vs).2).1 = keys ls from mkL_keys _ _ _] at this
  simpa using this
theorem wrap_small {x:Int} (h0:0 ≤ x) (h:x < 2000):IntKind.wrap .i64 x = x:=by
  simp [IntKind.wrap,IntKind.bits,IntKind.signed]
  omega
theorem align_ok {E:Env} {G:GTab} {C:CT E} (h0:E.on none none = E) (hm:E.P.follows .mixedOrders = true) (hG:E.G = gtPV G) (hE:GOK E) {f:FuncId} {fn:Func} {c:Code} (hf:E.P.funcs[f]? = some fn) (hb:fn.body = some c)
    {h:Hint} {ar:List Sh} {ls:List (Nat × LSh)} {ot:Tm} (hk:Sh.kOKs ar = true ∧ (ls.all fun p=>p.2.kOK) = true ∧ slot0 ot = true ∧ decide (ar.length ≤ fn.ntmps) = true) {a:HT (Sh.hss ar ++ hsL ls)} {v:ot.T}
    {T:ET} {ec:T.T} {r0 r1 r2 r3 r4 r5 r7 r8 c9:Code} {j0 j1 j2 j3:Nat}
    (hc:c = .seq (.seq r0 (.block j0 (.loop (.seq r1 (.seq (.cond (.tmp 12) .skip (.exit j0)) (.seq (.block j1 (.seq r2 (.seq r3 (.block j2 (.loop (.seq r4 (.seq (.cond (.tmp 18) .skip (.exit j2)) (.seq (.block j3 r5) r7)))))))) r8)))))) c9)
    {id:Nat} {T1 e1:TypeId} {t1 t2 t3:TypeId} {s1 s2 s3':String} {f1 f2 f3:Array Edge}
    (h2:r2 = .region id #[⟨some 13,.indexAddr T1 (.tmp 9) (.tmp 11),t1,s1,f1,none⟩,⟨some 14,.load e1 (.tmp 13),t2,s2,f2,none⟩,⟨some 3,.assign (.tmp 14),t3,s3',f3,none⟩] false)
    (hT1:E.P.underlying T1 = some (.slice e1)) (hes:(E.P.info? e1).map (fun i=>i.size) = some 1) (hrow:rowOf E.P e1 = some false) (hn:14 < fn.ntmps)
    (hT:T.noF = true) {c0:List DV} {rows:List (List T.T)} {Lr:DLb} (hL:(inS ar ls (unpack _ a)).L = (0,.cs c0) :: (1,.ls (.tf 1 T) rows) :: Lr) (hA:inA ar ls (unpack _ a) = [.ptr 0 0])
    (hks:(keys ls).elem rlab = false ∧ (keys ls).elem fkeep = false ∧ lget Lr 1 = none ∧ lget Lr rlab = none ∧ othC (.cs c0) = true ∧ Lr.all (fun p=>othC p.2) = true ∧
      (((0,.cs c0) :: (1,.ls (.tf 1 T) rows) :: Lr:DLb).all fun p=>dcLabsN (fun l=>(keys ((0,.cs c0) :: (1,.ls (.tf 1 T) rows) :: Lr:DLb)).elem l) p.2) = true)
    (q0:D E G C fn.ntmps r0 .leaf _ (keys ls) (sA0 T c0 Lr rows) pA (fun _ _=>none) = some (rows.length,(rows.length:Int),0))
    (q1:∀ (N:Nat) (r:Int) rs tl,D E G C fn.ntmps r1 .leaf _ (keys ls) (sA T c0 Lr N r rs tl) pB (fun _ _=>none) = some ((N,(N:Int),r),decide (r < N)))
    (q8:∀ (N:Nat) (r:Int) rs tl,D E G C fn.ntmps r8 .leaf _ (keys ls) (sA T c0 Lr N r rs tl) pA (fun _ _=>none) = some (N,(N:Int),IntKind.wrap .i64 (r + 1)))
    (q3:∀ (N:Nat) (r:Int) (nn:Nat) dds cont,D E G C fn.ntmps r3 .leaf _ (keys ls) (s3 T c0 Lr N r nn dds cont) (pI1 T) (fun _ _=>none) = some ((N,(N:Int),r),(nn,(nn:Int),0)))
    (q4:∀ (N:Nat) (r:Int) (nn:Nat) (k:Int) dds cont,D E G C fn.ntmps r4 .leaf _ (keys ls) (sI T c0 Lr N r nn k dds cont) (pI2 T) (fun _ _=>none) = some (((N,(N:Int),r),(nn,(nn:Int),k)),decide (k < nn)))
    (q5:∀ (N:Nat) (r:Int) (nn:Nat) (k:Int) dds cont,0 ≤ k → k < nn → cont.length = nn → D E G C fn.ntmps r5 .leaf _ (keys ls) (sI T c0 Lr N r nn k dds cont) (pI3 T) (fun _ _=>none) = some (((N,(N:Int),r),(nn,(nn:Int),k)),cont.set k.toNat ec))
    (q7:∀ (N:Nat) (r:Int) (nn:Nat) (k:Int) dds cont,D E G C fn.ntmps r7 .leaf _ (keys ls) (sI T c0 Lr N r nn k dds cont) (pI1 T) (fun _ _=>none) = some ((N,(N:Int),r),(nn,(nn:Int),IntKind.wrap .i64 (k + 1))))
    (hv:DIA E G C fn.ntmps fn.results.toList c9 h ar ls ot T ec a = some v) :
    ACalls E f (DV.pvs (inA ar ls (unpack _ a))) (dlb (inL ar ls (unpack _ a))) fun x L=>x = (resV (ot.app v (inS ar ls (unpack _ a)))).pv ∧ L = dlb (ot.app v (inS ar ls (unpack _ a))).L:=by
  obtain ⟨ie,he,hs⟩:=Option.map_eq_some_iff.1 hes
  have hbok:lbOk (inS ar ls (unpack _ a)).L:=fun l c hl=>mkL_okk hk.2.1 (l,c) (mem_of_lget hl)
  rw [hL] at hbok
  have hc0:DV.oks c0:=hbok 0 (.cs c0) (by simp [lget])
  have hLr:∀ p ∈ Lr,p.2.ok:=fun p hp=>by
    have:p ∈ (inS ar ls (unpack _ a)).L:=by rw [hL];simp [hp]
    exact mkL_okk hk.2.1 p this
  have tlok:∀ {tl:DLb},(tl = [] ∨ tl = [(rlab,.gone)]) → ∀ p ∈ tl,p.2.ok:=by
    rintro tl (rfl | rfl) p hp
    · simp at hp
    · simp at hp;subst hp;trivial
  have okA:∀ N r rs tl,(tl = [] ∨ tl = [(rlab,.gone)]) → (sA T c0 Lr N r rs tl).ok:=fun N r rs tl ht=>by
    refine ⟨okAl ?_,okLb ?_⟩
    · intro p hp
      simp only [sA,List.mem_cons,List.not_mem_nil,or_false] at hp
      rcases hp with rfl | rfl | rfl | rfl <;> trivial
    · intro p hp
      simp only [sA,List.mem_cons,List.mem_append] at hp
      rcases hp with rfl | rfl | hp | hp
      · exact hc0
      · trivial
      · exact hLr p hp
      · exact tlok ht p hp
  have okI:∀ N r nn k dds cont,DV.oks dds → (sI T c0 Lr N r nn k dds cont).ok:=fun N r nn k dds cont hd=>by
    refine ⟨okAl ?_,okLb ?_⟩
    · intro p hp
      simp only [sI,List.mem_cons,List.not_mem_nil,or_false] at hp
      rcases hp with rfl | rfl | rfl | rfl | rfl | rfl | rfl <;> trivial
    · intro p hp
      simp only [sI,List.mem_cons,List.mem_append,List.not_mem_nil,or_false] at hp
      rcases hp with rfl | rfl | hp | rfl
      · exact hc0
      · exact hd
      · exact hLr p hp
      · trivial
  have ok3:∀ N r nn dds cont,DV.oks dds → (s3 T c0 Lr N r nn dds cont).ok:=fun N r nn dds cont hd=>by
    refine ⟨okAl ?_,okLb ?_⟩
    · intro p hp
      simp only [s3,List.mem_cons,List.not_mem_nil,or_false] at hp
      rcases hp with rfl | rfl | rfl | rfl | rfl <;> trivial
    · intro p hp
      simp only [s3,List.mem_cons,List.mem_append,List.not_mem_nil,or_false] at hp
      rcases hp with rfl | rfl | hp | rfl
      · exact hc0
      · exact hd
      · exact hLr p hp
      · trivial
  have toD:∀ {tl:Lb},(tl = [] ∨ tl = [(rlab,none)]) → ∃ tl':DLb,dlb tl' = tl ∧ (tl' = [] ∨ tl' = [(rlab,.gone)]):=by
    rintro tl (rfl | rfl)
    · exact ⟨[],rfl,.inl rfl⟩
    · exact ⟨[(rlab,.gone)],rfl,.inr rfl⟩
  have eA:∀ N r rs tl,dal (sA T c0 Lr N r rs tl).al = alA N r ∧ dlb (sA T c0 Lr N r rs tl).L = lF (DV.pvs c0) (dlb Lr) rs (dlb tl):=fun N r rs tl=>
    ⟨by simp [sA,dal,DV.pv,alA],by simp [sA,dlb,DC.pv,lF]⟩
  have eI:∀ N r nn k dds cont,dal (sI T c0 Lr N r nn k dds cont).al = alI (T:=T) N r nn k ∧ dlb (sI T c0 Lr N r nn k dds cont).L = lM (DV.pvs c0) (dlb Lr) (DV.pvs dds) cont:=fun N r nn k dds cont=>
    ⟨by simp [sI,dal,DV.pv,alI,alA],by simp [sI,dlb,DC.pv,lM]⟩
  have e3:∀ N r nn dds cont,dal (s3 T c0 Lr N r nn dds cont).al = (3,.rw rlab 0 nn T.sz none) :: alA N r ∧ dlb (s3 T c0 Lr N r nn dds cont).L = lM (DV.pvs c0) (dlb Lr) (DV.pvs dds) cont:=fun N r nn dds cont=>
    ⟨by simp [s3,dal,DV.pv,alA],by simp [s3,dlb,DC.pv,lM]⟩
  have al4A:∀ (N:Nat) (r:Int),al4 N N r = alA N r:=fun _ _=>rfl
  have hl50:lget Lr rlab = none:=hks.2.2.2.1
  have hset:∀ (dds:List DV) (cont cont':List T.T),lset (lM (DV.pvs c0) (dlb Lr) (DV.pvs dds) cont) rlab (some (fl (el T) cont')) = lM (DV.pvs c0) (dlb Lr) (DV.pvs dds) cont':=fun dds cont cont'=>by
    have e1:lM (DV.pvs c0) (dlb Lr) (DV.pvs dds) cont = ((0,some (DV.pvs c0)) :: (1,some (DV.pvs dds)) :: dlb Lr) ++ [(rlab,some (fl (el T) cont))]:=rfl
    have e2:lget ((0,some (DV.pvs c0)) :: (1,some (DV.pvs dds)) :: dlb Lr) rlab = none:=by
      simp only [lget];rw [if_neg (by decide),if_neg (by decide),lget_dlb,hl50];rfl
    rw [e1,lset_skip _ e2];rfl
  refine DIA_ok h0 hm hG hE hf hb hk hc hT hL hA hks ?_ ?_ ?_ ?_ ?_ hv
  · have:=pieceA (K:=fun l=>lget (dlb (inL ar ls (unpack _ a))) l ≠ none) hm hG hE kin q0 ⟨okAl (by intro p hp;simp [sA0] at hp;subst hp;trivial),okLb (by
      intro p hp
      simp only [sA0,List.mem_cons] at hp
      rcases hp with rfl | rfl | hp
      · exact hc0
      · trivial
      · exact hLr p hp)⟩
    have eL:dlb (sA0 T c0 Lr rows).L = lF (DV.pvs c0) (dlb Lr) rows []:=by simp [sA0,dlb,DC.pv,lF]
    rw [eL] at this
    exact this
  · intro r rs tl ht
    obtain ⟨tl',rfl,ht'⟩:=toD ht
    have:=pieceB (K:=fun l=>lget (dlb (inL ar ls (unpack _ a))) l ≠ none) hm hG hE kin (q1 rows.length r rs tl') (okA _ _ _ _ ht')
    rw [(eA _ _ rs tl').1,(eA _ _ _ _).2] at this
    exact this
  · intro hle r rs tl ht hr0 hrN
    obtain ⟨tl',rfl,ht'⟩:=toD ht
    have:=pieceA (K:=fun l=>lget (dlb (inL ar ls (unpack _ a))) l ≠ none) hm hG hE kin (q8 rows.length r rs tl') (okA _ _ _ _ ht')
    rw [(eA _ _ rs tl').1,(eA _ _ _ _).2,wrap_small (by omega) (by omega)] at this
    exact this
  · intro nn r ds cont hdl hdr
    subst h2
    exact row_op hT1 he hs hrow hn hdl hdr
  · intro nn r dds cont hdo hn1 hcn
    refine fill_row hn1 ?_ ?_ ?_ ?_ hcn
    · intro cont
      have:=pieceI1 (K:=fun l=>lget (dlb (inL ar ls (unpack _ a))) l ≠ none) hm hG hE kin (q3 rows.length r nn dds cont) (ok3 _ _ _ _ _ hdo)
      rw [(e3 _ _ _ dds cont).1,(e3 _ _ _ _ _).2] at this
      exact this
    · intro k cont
      have:=pieceI2 (K:=fun l=>lget (dlb (inL ar ls (unpack _ a))) l ≠ none) hm hG hE kin (q4 rows.length r nn k dds cont) (okI _ _ _ _ _ _ hdo)
      rw [(eI _ _ _ _ dds cont).1,(eI _ _ _ _ _ _).2] at this
      exact this
    · intro k cont hk hcl
      have:=pieceI3 (K:=fun l=>lget (dlb (inL ar ls (unpack _ a))) l ≠ none) hm hG hE kin (q5 rows.length r nn k dds cont (by omega) (by omega) hcl) (okI _ _ _ _ _ _ hdo)
      rw [(eI _ _ _ _ dds cont).1,(eI _ _ _ _ _ _).2,hset] at this
      exact this
    · intro k cont hk0 hk1
      have:=pieceI1 (K:=fun l=>lget (dlb (inL ar ls (unpack _ a))) l ≠ none) hm hG hE kin (q7 rows.length r nn k dds cont) (okI _ _ _ _ _ _ hdo)
      rw [(eI _ _ _ _ dds cont).1,(eI _ _ _ _ _ _).2,wrap_small (by omega) (by omega)] at this
      exact this
end Go.SH
namespace Go.SH
/-- Values that say nothing of memory. -/
def plP:PV → Bool
  | .dead=>true
  | .int _ _=>true
  | .bool _=>true
  | .raw _=>true
  | _=>false
def plX:PV → Bool
  | .agg cs=>cs.all plP
  | x=>plP x
theorem VR.plP {w w':World} {σ σ':Sig} {av av':Nat → Prop} {x:PV} {v:Value} (h:VR w σ av x v) (hp:plP x = true):VR w' σ' av' x v:=by
  cases h <;> first | (simp [Go.SH.plP] at hp;done) | constructor
theorem VR.plX {w w':World} {σ σ':Sig} {av av':Nat → Prop} {x:PV} {v:Value} (h:VR w σ av x v) (hp:plX x = true):VR w' σ' av' x v:=by
  cases h with
  | agg cs hl hv=>exact .agg cs hl fun i x v hx hc=>(hv i x v hx hc).plP (List.all_eq_true.1 hp x (List.mem_of_getElem? hx))
  | dead=>exact .dead
  | int k n=>exact .int k n
  | bool b=>exact .bool b
  | raw l=>exact .raw l
  | _=>simp [Go.SH.plX,Go.SH.plP] at hp
/-- All that is cells stays, and all that lies below. -/
structure KeepX (B:Nat) (W W':World):Prop where
  size:W.heap.size ≤ W'.heap.size
  cel:∀ (β:Nat) c T fr,W.heap[β]? = some (Obj.cells c T fr) → W'.heap[β]? = some (Obj.cells c T fr)
  low:∀ (β:Nat),β < B → W'.heap[β]? = W.heap[β]?
  out:W'.os = W.os ∧ W'.output = W.output ∧ W'.tape = W.tape
theorem KeepX.put {B:Nat} {W:World} {l:Nat} {o:Obj} (o':Obj) (hl:W.heap[l]? = some o) (ho:∀ c T fr,o ≠ Obj.cells c T fr) (hB:B ≤ l):KeepX B W (W.putObj l o'):=by
  refine ⟨by simp,fun β c T fr h=>?_,fun β hb=>World.putObj_heap_other (by omega),rfl,rfl,rfl⟩
  by_cases e:β = l
  · subst e;rw [hl] at h;simp at h;exact (ho _ _ _ h).elim
  · exact (World.putObj_heap_other e).trans h
theorem KeepX.grown {B:Nat} {W W':World} (h:W.grownBy W' none) (hB:B ≤ W.heap.size):KeepX B W W':=
  ⟨h.size,fun β c T fr hc=>(h.block β (Array.getElem?_eq_some_iff.1 hc).1 (by simp)).trans hc,fun β hb=>h.block β (by omega) (by simp),h.os,h.output,h.tape⟩
theorem Imm.keepX {B:Nat} {W W':World} {av av':Nat → Prop} {β add:Nat} {cs:List Value} (h:Imm W av β add cs) (hk:KeepX B W W') (hav:¬ av β → ¬ av' β):Imm W' av' β add cs:=
  ⟨Nat.lt_of_lt_of_le h.lt hk.size,hav h.na,fun i v hv=>by
    have h1:=h.cell i v hv
    cases ho:W.heap[β]? with
    | none=>simp [World.cell?,ho] at h1
    | some o=>
      cases o with
      | cells c T fr=>have h2:=hk.cel β c T fr ho;simp only [World.cell?,ho,Option.bind_some] at h1;simp only [World.cell?,h2,Option.bind_some];exact h1
      | _=>simp [World.cell?,ho] at h1⟩
theorem BR.keepX {B:Nat} {W W':World} {σ:Sig} {A:Nat → Prop} {L:Lb} (h:BR W σ A L) (hk:KeepX B W W') (hp:∀ l cells,lget L l = some (some cells) → cells.all plX = true):BR W' σ A L:=by
  refine ⟨fun l cells hl=>?_,h.inj,h.dom,fun β hA=>⟨Nat.lt_of_lt_of_le (h.lo β hA).1 hk.size,(h.lo β hA).2⟩,?_⟩
  · rcases h.all l cells hl with h1 | ⟨β,add,size,c,T,fr,hB⟩
    · exact .inl h1
    · exact .inr ⟨β,add,size,c,T,fr,⟨hB.sig,hk.cel _ _ _ _ hB.heap,hB.hsz,hB.fits,fun i x hx=>let ⟨v,h1,h2⟩:=hB.vals i x hx;⟨v,h1,h2.plX (List.all_eq_true.1 (hp l cells hl) x (List.mem_of_getElem? hx))⟩,hB.frs⟩⟩
  · exact h.fr.mono hk.size (fun _ _ _ k=>k) (fun q β add k=>by
      obtain ⟨c,T,fr,e⟩:=h.fr.cel q β add k
      rw [hk.cel _ _ _ _ e,e]) fun _ _ _ _ k=>k
def GV (G:List (Nat × List PV)) (W:World) (σ:Sig) (av:Nat → Prop):Prop:=∀ g cells,lget G g = some cells → VR W σ av (.rop cells 0) (.pointer (some ⟨g,0,none⟩))
theorem VR.rop_inv {W:World} {σ:Sig} {av:Nat → Prop} {cells:List PV} {off β k:Nat} (h:VR W σ av (.rop cells off) (.pointer (some ⟨β,k,none⟩))) :
    ∃ add cs,k = add + off ∧ Imm W av β add cs ∧ cells.length = cs.length ∧ ∀ (i:Nat) (x:PV) (v:Value),cells[i]? = some x → cs[i]? = some v → VR W σ av x v:=by
  cases h with
  | rop cs him hl hv=>exact ⟨_,cs,rfl,him,hl,hv⟩
theorem GV.keepX {B:Nat} {G:List (Nat × List PV)} {W W':World} {σ σ':Sig} {av av':Nat → Prop} (hG:∀ g cells,lget G g = some cells → cells.all plX = true) (h:GV G W σ av) (hk:KeepX B W W') (hav:∀ β,¬ av β → ¬ av' β):GV G W' σ' av':=by
  intro g cells hg
  obtain ⟨add,cs,e,him,hl,hv⟩:=(h g cells hg).rop_inv
  rw [show (⟨g,0,none⟩:Addr) = ⟨g,add + 0,none⟩ from by rw [← e]]
  exact .rop cs (him.keepX hk (hav _)) hl fun i x v hx hc=>(hv i x v hx hc).plX (List.all_eq_true.1 (hG g cells hg) x (List.mem_of_getElem? hx))
theorem KeepX.refl (B:Nat) (W:World):KeepX B W W:=⟨Nat.le_refl _,fun _ _ _ _ h=>h,fun _ _=>rfl,rfl,rfl,rfl⟩
theorem Grow.keepX {w W W':World} {σ σ':Sig} {L L':Lb} (h:Grow top w σ L W σ' L') (hk:KeepX w.heap.size W W') (hf:∀ q β add,σ.fam q β add → β < w.heap.size):Grow top w σ L W' σ' L':=
  ⟨Nat.le_trans h.size hk.size,h.sig,fun β hb hn=>⟨(h.keep β hb hn).1,(hk.low β hb).trans (h.keep β hb hn).2⟩,⟨hk.out.1.trans h.out.1,hk.out.2.1.trans h.out.2.1,hk.out.2.2.trans h.out.2.2⟩,
   fun _ q β add k=>⟨(h.fam trivial q β add k).1,(hk.low β (hf _ _ _ k)).trans (h.fam trivial q β add k).2⟩⟩
abbrev GV0 (E:Env) (W:World):Prop:=GV E.G W sig0 (fun _=>False)
/-- What a call of a round's function does. -/
def YAt (P:Program) (l:Nat) (args:Array Value) (W:World) (R:Ending → World → Prop):Prop:=
  ∃ fn tmps assign body,(Instr.yield l args).run P W = .ok (.round l fn tmps assign body) W ∧ RoundIn (fen none) 0 P l fn tmps assign body W R
/-- What a function that is ranged over does: it calls its rounds with these numbers, one by one, until one of them says no. -/
def IterC (E:Env) (f:FuncId) (caps:List PV) (xs:List Int):Prop:=
  ∀ (W:World) (cs:List Value) (l:Nat) (J Jx:List Int → World → Prop),caps.length = cs.length → (∀ (i:Nat) (x:PV) (v:Value),caps[i]? = some x → cs[i]? = some v → VR W sig0 (fun _=>False) x v) → GV0 E W →
    (∀ pre W W',J pre W → W.grownBy W' none → J pre W') → (∀ pre W W',Jx pre W → W.grownBy W' none → Jx pre W') →
    (∀ pre x W1,J pre W1 → (pre ++ [x]) <+: xs → GV0 E W1 → YAt E.P l #[.int .i64 x] W1 fun e W'=>GV0 E W' ∧ ((e = .returned (.bool true) ∧ J (pre ++ [x]) W') ∨ (e = .returned (.bool false) ∧ Jx (pre ++ [x]) W'))) →
    J [] W → Calls E.P f (#[.func (.yield l) #[] #[]] ++ cs.toArray) W fun e W'=>(∃ v,e = .returned v) ∧ (J xs W' ∨ ∃ pre,pre <+: xs ∧ Jx pre W')
def exitOf:Option (Option Nat) → Exit
  | none=>.normal
  | some none=>.ret
  | some (some i)=>.exit i
def codeOf:Option Nat → Code
  | none=>.ret
  | some i=>.exit i
def runX {S:Type} (step:S → Int → S × Option (Option Nat)):S → List Int → S × Option (Option Nat)
  | s,[]=>(s,none)
  | s,x :: xs=>match step s x with
    | (s',none)=>runX step s' xs
    | (s',some e)=>(s',some e)
theorem runX_app {S:Type} {step:S → Int → S × Option (Option Nat)}:∀ {s s':S} (xs ys:List Int),runX step s xs = (s',none) → runX step s (xs ++ ys) = runX step s' ys
  | s,s',[],ys,h=>by simp [runX] at h;subst h;rfl
  | s,s',x :: xs,ys,h=>by
    simp only [runX,List.cons_append] at h ⊢
    cases e:step s x with
    | mk s1 o=>cases o with
      | none=>rw [e] at h;exact runX_app xs ys h
      | some c=>rw [e] at h;simp at h
theorem runX_stop {S:Type} {step:S → Int → S × Option (Option Nat)}:∀ {s s':S} {c:Option Nat} (xs ys:List Int),runX step s xs = (s',some c) → runX step s (xs ++ ys) = (s',some c)
  | s,s',c,[],ys,h=>by simp [runX] at h
  | s,s',c,x :: xs,ys,h=>by
    simp only [runX,List.cons_append] at h ⊢
    cases e:step s x with
    | mk s1 o=>cases o with
      | none=>rw [e] at h;exact runX_stop xs ys h
      | some c=>rw [e] at h;exact h
end Go.SH
namespace Go.SH
section
variable {E:Env} {K:Nat → Prop} {n:Nat} {al:Al} {Q:Exit → Al → Lb → Prop}
/-- The record of a loop. -/
abbrev rcL (fn:Nat) (tmps:Array Value) (p:Nat) (assign body:Code) (dfr:Nat) (st:LoopState) (pe:Option Code):Loop:={ state:=st,pending:=pe,fn:=fn,tmps:=tmps,params:=#[p],assign:=assign,body:=body,defers:=dfr }
theorem AW_rangeX {b:Nat} (hro:E.ro = none) (hmb:E.mb = some b) (hGp:∀ g cells,lget E.G g = some cells → cells.all plX = true)
    {g:Operand} {assign body:Code} {f:FuncId} {p lab:Nat} {tc:List PV} (hpn:p < n) (hg:xev E.G al g = some (.fn f [.ptr lab 0])) (hrun:∀ args w,(callFunc f args).run E.P w = .ok (.enter f args) w)
    {S:Type} (Lst:S → Lb) (step:S → Int → S × Option (Option Nat)) {s0:S} (hlab:lget (Lst s0) lab = some (some tc)) (hne:tc ≠ [])
    (hpl:∀ s l cells,lget (Lst s) l = some (some cells) → cells.all plX = true) {xs:List Int} (hit:IterC E f [.rop tc 0] xs) (al1:Int → Al) (hy:∀ s,hasL (Lst s) ylab = false)
    (hw1:∀ s x,∀ q ∈ al1 x,within (hasL (Lst s)) q.2 = true)
    (hA:∀ s x l,AW (E.on (some l) none) top n assign (fun e al' L'=>e = .normal ∧ al' = al1 x ∧ L' = Lst s) ((p,.int .i64 x) :: al) (Lst s))
    (hB:∀ s x l,AW (E.on (some l) none) top n body (fun e al' L'=>e = exitOf (step s x).2 ∧ L' = Lst (step s x).1) (al1 x) (Lst s))
    (hq:Q (exitOf (runX step s0 xs).2) al (Lst (runX step s0 xs).1)):AW E K n (.rangeFunc g #[p] assign body) Q al (Lst s0):=by
  intro A w σ a r t
  have hgv:=xev_ok r (fun _ _ h=>h) hg
  generalize hge:a.eval g = gv at hgv
  cases hgv with
  | fn f' cs hlc hcv=>
    obtain ⟨c0,rfl⟩:∃ c0,cs = [c0]:=by
      cases cs with
      | nil=>simp at hlc
      | cons c r=>cases r with
        | nil=>exact ⟨c,rfl⟩
        | cons _ _=>simp at hlc
    have hc0:=hcv 0 _ c0 rfl rfl
    obtain ⟨β,add,size,hσ,rfl⟩:∃ β add size,σ lab = some (β,add,size) ∧ c0 = .pointer (some ⟨β,add + 0,none⟩):=by
      cases hc0 with
      | ptr h=>exact ⟨_,_,_,h,rfl⟩
    rcases r.blocks.all lab tc hlab with ⟨h1,_⟩ | ⟨β',add',size',c,T,fr,hBk⟩
    · rw [hσ] at h1;simp at h1
    have hs:=hBk.sig
    rw [hσ] at hs;simp at hs
    obtain ⟨rfl,rfl,rfl⟩:=hs
    have hfam:∀ q β add,σ.fam q β add → β < w.heap.size:=fun q β add k=>(r.blocks.fr.fam q β add k).1
    have hnl:∀ (q:Loop) c T fr,Obj.loop q ≠ Obj.cells c T fr:=fun _ _ _ _ h=>by cases h
    have hnd:∀ q c T fr,Obj.deferred q ≠ Obj.cells c T fr:=fun _ _ _ _ h=>by cases h
    let core:S → World → Sig → Prop:=fun s W σ'=>BR W σ' A (Lst s) ∧ Grow top w σ (Lst s0) W σ' (Lst s) ∧ GV E.G W σ' (avo A σ' (Lst s))
    have coreK:∀ {s W W' σ'},core s W σ' → KeepX w.heap.size W W' → core s W' σ':=fun h hk=>⟨h.1.keepX hk (hpl _),h.2.1.keepX hk hfam,h.2.2.keepX hGp hk (fun _ h=>h)⟩
    rw [hro]
    refine wpIn_rangeFunc fun fn _=>?_
    obtain ⟨W1,hW1⟩:∃ W1,(w.alloc (.deferred (some []))).alloc (.loop (rcL fn a.tmps p assign body w.heap.size .ready none)) = W1:=⟨_,rfl⟩
    have hk1:KeepX w.heap.size w W1:=by
      rw [← hW1]
      have k1:=KeepX.grown (B:=w.heap.size) (World.grownBy_alloc w (.deferred (some [])) none) (Nat.le_refl _)
      have k2:=KeepX.grown (B:=w.heap.size) (World.grownBy_alloc (w.alloc (.deferred (some []))) (.loop (rcL fn a.tmps p assign body w.heap.size .ready none)) none) (by simp)
      exact ⟨Nat.le_trans k1.size k2.size,fun β c T fr h=>k2.cel _ _ _ _ (k1.cel _ _ _ _ h),fun β h=>(k2.low β h).trans (k1.low β h),rfl,rfl,rfl⟩
    have hl1:W1.heap[w.heap.size + 1]? = some (.loop (rcL fn a.tmps p assign body w.heap.size .ready none)):=by
      rw [← hW1];have:=World.alloc_heap_new (w.alloc (.deferred (some []))) (.loop (rcL fn a.tmps p assign body w.heap.size .ready none));rwa [World.size_alloc] at this
    have hd1:W1.heap[w.heap.size]? = some (.deferred (some [])):=by
      rw [← hW1];exact ((World.grownBy_alloc (w.alloc (.deferred (some []))) (.loop (rcL fn a.tmps p assign body w.heap.size .ready none)) none).block w.heap.size (by simp) (by simp)).trans (World.alloc_heap_new w _)
    have hcore1:core s0 W1 σ:=coreK ⟨r.blocks,Grow.refl _ _ _ _,r.globals⟩ hk1
    refine ⟨w.heap.size + 1,[{ target:=.collected w.heap.size,args:=#[] }],W1,{ target:=.fn (.func f) #[.pointer (some ⟨β,add + 0,none⟩)],args:=#[.func (.yield (w.heap.size + 1)) #[] #[]] },W1,f,(#[.func (.yield (w.heap.size + 1)) #[] #[]] ++ [Value.pointer (some ⟨β,add + 0,none⟩)].toArray),W1,by rw [← hW1];exact run_enterLoop_outer _ _ _ _ _,?_,fun _ _=>trivial,?_,fun h=>by simp [Fence.wide] at h,callsIn_fen ?_⟩
    · simp only [resolve,hge]
      simp [go_sem,Deferred.ofValue]
    · simp [invoke,go_sem,hrun]
    let J:List Int → World → Prop:=fun pre W=>∃ s σ',runX step s0 pre = (s,none) ∧ core s W σ' ∧ W.heap[w.heap.size + 1]? = some (.loop (rcL fn a.tmps p assign body w.heap.size .ready none)) ∧ W.heap[w.heap.size]? = some (.deferred (some []))
    let Jx:List Int → World → Prop:=fun pre W=>∃ s c σ',runX step s0 pre = (s,some c) ∧ core s W σ' ∧ W.heap[w.heap.size + 1]? = some (.loop (rcL fn a.tmps p assign body w.heap.size .done (some (codeOf c)))) ∧ W.heap[w.heap.size]? = some (.deferred (some []))
    have grownK:∀ {s W W' σ'},core s W σ' → W.grownBy W' none → KeepX w.heap.size W W':=fun h hg=>KeepX.grown hg h.2.1.size
    have oldB:∀ {W W':World} {k:Nat} {o:Obj},W.grownBy W' none → W.heap[k]? = some o → W'.heap[k]? = some o:=fun hg h=>(hg.block _ (Array.getElem?_eq_some_iff.1 h).1 (by simp)).trans h
    refine (hit W1 [.pointer (some ⟨β,add + 0,none⟩)] (w.heap.size + 1) J Jx rfl ?_ (GV.keepX hGp r.globals hk1 (fun _ _ h=>h)) ?_ ?_ ?_ ⟨s0,σ,rfl,hcore1,hl1,hd1⟩).mono ?_
    · intro i x v hx hv
      cases i with
      | succ i=>simp at hx
      | zero=>
        simp at hx hv;subst hx;subst hv
        have hf:=hBk.fits
        have hsz:=hBk.hsz
        have hlen:((c.toList.drop add).take tc.length).length = tc.length:=by simp;omega
        have hcell:∀ (i:Nat) (v:Value),((c.toList.drop add).take tc.length)[i]? = some v → c[add + i]? = some v:=fun i v h=>by
          have hi:i < tc.length:=by rw [← hlen];exact (List.getElem?_eq_some_iff.1 h).1
          rw [List.getElem?_take_of_lt hi,List.getElem?_drop] at h
          simpa using h
        have h2:=hk1.cel _ _ _ _ hBk.heap
        show VR W1 sig0 (fun _=>False) (.rop tc 0) (.pointer (some ⟨β,add + 0,none⟩))
        refine .rop ((c.toList.drop add).take tc.length) ⟨(Array.getElem?_eq_some_iff.1 h2).1,fun h=>h,fun i v h=>?_⟩ hlen.symm fun i x v hx hv=>?_
        · simp only [World.cell?,h2,Option.bind_some]
          exact hcell i v h
        · obtain ⟨v',e1,e2⟩:=hBk.vals i x hx
          have:=hcell i v hv
          rw [e1] at this;simp at this;subst this
          exact e2.plX (List.all_eq_true.1 (hpl _ _ _ hlab) x (List.mem_of_getElem? hx))
    · rintro pre W W' ⟨s,σ',h1,h2,h3,h4⟩ hg
      exact ⟨s,σ',h1,coreK h2 (grownK h2 hg),oldB hg h3,oldB hg h4⟩
    · rintro pre W W' ⟨s,c,σ',h1,h2,h3,h4⟩ hg
      exact ⟨s,c,σ',h1,coreK h2 (grownK h2 hg),oldB hg h3,oldB hg h4⟩
    · -- a round
      rintro pre x W ⟨s,σ',h1,h2,h3,h4⟩ hpre _
      obtain ⟨hbr,hgr,hgl⟩:=h2
      refine ⟨fn,a.tmps.setIfInBounds p (.int .i64 x),assign,body,by simpa using run_yield (P:=E.P) (args:=#[.int .i64 x]) h3 (by simp),roundIn_of_wpIn trivial ?_⟩
      refine wpIn_mono (hA s x (w.heap.size + 1) A W σ' { tmps:=a.tmps.setIfInBounds p (.int .i64 x),defers:=[] } ⟨fun u y hu=>?_,hbr,hgl,rfl⟩ (by simp [t])) ?_
      · simp only [lget] at hu
        split at hu
        · rename_i e;subst e;simp at hu;subst hu
          exact ⟨_,by simp [t,hpn],.int _ _⟩
        · rename_i e
          obtain ⟨v,e1,e2⟩:=r.tmps u y hu
          exact ⟨v,by rw [Array.getElem?_setIfInBounds_ne e,e1],e2.grow hgr⟩
      · rintro e a1 w1 ⟨al',L',σ1,⟨rfl,rfl,rfl⟩,r1,g1,t1⟩
        have hlk:∀ {W W':World} {σ σ':Sig} {L L':Lb} {k:Nat} {o:Obj},BR W σ A L → Grow top W σ L W' σ' L' → W.heap[k]? = some o → (∀ c T fr,o ≠ Obj.cells c T fr) → W'.heap[k]? = some o:=fun hb hg hk hn=>
          (hg.keep _ (Array.getElem?_eq_some_iff.1 hk).1 (hb.notAv hk hn)).2.trans hk
        have l1:=hlk hbr g1 h3 (hnl _)
        have d1:=hlk hbr g1 h4 (hnd _)
        have c1:core s w1 σ1:=⟨r1.blocks,hgr.trans g1,r1.globals⟩
        refine ⟨_,run_beginRound l1 rfl,?_⟩
        have k2:=KeepX.put (B:=w.heap.size) (.loop { rcL fn a.tmps p assign body w.heap.size .ready none with state:=.busy }) l1 (hnl _) (by omega)
        have c2:=coreK c1 k2
        have l2:(w1.putObj (w.heap.size + 1) (.loop { rcL fn a.tmps p assign body w.heap.size .ready none with state:=.busy })).heap[w.heap.size + 1]? = some (.loop { rcL fn a.tmps p assign body w.heap.size .ready none with state:=.busy }):=World.putObj_heap_same (Array.getElem?_eq_some_iff.1 l1).1
        have d2:(w1.putObj (w.heap.size + 1) (.loop { rcL fn a.tmps p assign body w.heap.size .ready none with state:=.busy })).heap[w.heap.size]? = some (.deferred (some [])):=(World.putObj_heap_other (by omega)).trans d1
        have hT:=Turn.put w1 (w.heap.size + 1) (.loop { rcL fn a.tmps p assign body w.heap.size .ready none with state:=.busy })
        refine wpIn_mono (hB s x (w.heap.size + 1) A _ σ1 a1 ⟨fun u y hu=>?_,c2.1,c2.2.2,r1.nodefer⟩ t1) ?_
        · obtain ⟨v,e1,e2⟩:=r1.tmps u y hu
          exact ⟨v,e1,e2.turn (S:=hasL (Lst s)) hT l1 (hnl _) (.inr ⟨hy s,hw1 s x _ (mem_of_lget hu)⟩)⟩
        rintro e a3 w3 ⟨al3,L3,σ3,⟨rfl,rfl⟩,r3,g3,t3⟩
        have l3:=hlk c2.1 g3 l2 (hnl _)
        have d3:=hlk c2.1 g3 d2 (hnd _)
        have c3:core (step s x).1 w3 σ3:=⟨r3.blocks,c2.2.1.trans g3,r3.globals⟩
        have fin:∀ st pe,core (step s x).1 (w3.putObj (w.heap.size + 1) (.loop (rcL fn a.tmps p assign body w.heap.size st pe))) σ3 ∧ (w3.putObj (w.heap.size + 1) (.loop (rcL fn a.tmps p assign body w.heap.size st pe))).heap[w.heap.size + 1]? = some (.loop (rcL fn a.tmps p assign body w.heap.size st pe)) ∧
            (w3.putObj (w.heap.size + 1) (.loop (rcL fn a.tmps p assign body w.heap.size st pe))).heap[w.heap.size]? = some (.deferred (some [])) ∧ GV0 E (w3.putObj (w.heap.size + 1) (.loop (rcL fn a.tmps p assign body w.heap.size st pe))):=fun st pe=>by
          have k:=KeepX.put (B:=w.heap.size) (.loop (rcL fn a.tmps p assign body w.heap.size st pe)) l3 (hnl _) (by omega)
          exact ⟨coreK c3 k,World.putObj_heap_same (Array.getElem?_eq_some_iff.1 l3).1,(World.putObj_heap_other (by omega)).trans d3,GV.keepX hGp r3.globals k (fun _ _ h=>h)⟩
        have happ:runX step s0 (pre ++ [x]) = ((step s x).1,(step s x).2):=by
          rw [runX_app _ _ h1]
          simp only [runX]
          cases step s x with
          | mk s1 o=>cases o <;> rfl
        cases ho:(step s x).2 with
        | none=>
          obtain ⟨f1,f2,f3,f4⟩:=fin .ready none
          exact ⟨_,_,run_endRound none l3,f4,.inl ⟨rfl,_,σ3,by rw [happ,ho],f1,f2,f3⟩⟩
        | some c=>
          obtain ⟨f1,f2,f3,f4⟩:=fin .done (some (codeOf c))
          cases c with
          | none=>exact ⟨_,_,run_endRound (some .ret) l3,f4,.inr ⟨rfl,_,none,σ3,by rw [happ,ho],f1,f2,f3⟩⟩
          | some i=>exact ⟨_,_,run_endRound (some (.exit i)) l3,f4,.inr ⟨rfl,_,some i,σ3,by rw [happ,ho],f1,f2,f3⟩⟩
    · -- behind it
      have last:∀ {s:S} {W:World} {σ':Sig} {pe:Option Code} {st:LoopState},core s W σ' → W.heap[w.heap.size + 1]? = some (.loop (rcL fn a.tmps p assign body w.heap.size st pe)) → W.heap[w.heap.size]? = some (.deferred (some [])) →
          Rel E A (W.putObj (w.heap.size + 1) (.loop (rcL fn a.tmps p assign body w.heap.size .exhausted pe))) σ' al (Lst s) { a with defers:=[{ target:=.collected w.heap.size,args:=#[] }] ++ a.defers } ∧ Grow top w σ (Lst s0) (W.putObj (w.heap.size + 1) (.loop (rcL fn a.tmps p assign body w.heap.size .exhausted pe))) σ' (Lst s):=fun {s W σ' pe st} hc hl hd=>by
        have k:=KeepX.put (B:=w.heap.size) (.loop (rcL fn a.tmps p assign body w.heap.size .exhausted pe)) hl (hnl _) (by omega)
        have c4:=coreK hc k
        refine ⟨⟨fun u y hu=>let ⟨v,e1,e2⟩:=r.tmps u y hu;⟨v,e1,e2.grow c4.2.1⟩,c4.1,c4.2.2,?_⟩,c4.2.1⟩
        have r':=r.grow c4.1 c4.2.1
        have hm:=r'.nodefer
        have hm0:=r.nodefer
        rw [hmb] at hm hm0 ⊢
        obtain ⟨m1,m2,m3⟩:=hm
        obtain ⟨n1,n2,n3⟩:=hm0
        refine ⟨m1,fun d hd'=>?_,?_⟩
        · rcases List.mem_append.1 hd' with hd' | hd'
          · simp at hd';subst hd'
            exact ⟨w.heap.size,rfl,n1,(World.putObj_heap_other (by omega)).trans hd⟩
          · exact m2 d hd'
        · refine List.pairwise_cons.2 ⟨fun d hd'=>?_,m3⟩
          obtain ⟨r2,f1,f2,f3⟩:=n2 d hd'
          rw [f1]
          have:=(Array.getElem?_eq_some_iff.1 f3).1
          intro e;simp at e;omega
      rintro e W2 ⟨⟨v,rfl⟩,⟨s,σ',h1,h2,h3,h4⟩ | ⟨pre,⟨ys,rfl⟩,s,c,σ',h1,h2,h3,h4⟩⟩
      · obtain ⟨f1,f2⟩:=last h2 h3 h4
        rw [h1] at hq
        exact ⟨none,_,run_endLoop h3 (by simp),al,Lst s,σ',hq,f1,f2.weaken fun _ _=>trivial,t⟩
      · obtain ⟨f1,f2⟩:=last h2 h3 h4
        rw [runX_stop _ ys h1] at hq
        refine ⟨some (codeOf c),_,run_endLoop h3 (by simp),?_⟩
        cases c with
        | none=>exact wpIn_ret ⟨al,Lst s,σ',hq,f1,f2.weaken fun _ _=>trivial,t⟩
        | some i=>exact wpIn_exit ⟨al,Lst s,σ',hq,f1,f2.weaken fun _ _=>trivial,t⟩
end
end Go.SH
namespace Go.SH
theorem Oper_wpIn_mono' {F:Fence} {m:Nat} {P:Program} {o:Oper} {a:Act} {w:World} {next next':Act → World → Prop} {Q Q':Exit → Act → World → Prop} (h:o.wpIn F m P a w next Q)
    (hn:∀ a w,next a w → next' a w) (hq:∀ e a w,e ≠ .normal → Q e a w → Q' e a w):o.wpIn F m P a w next' Q':=by
  refine ⟨h.1,?_⟩
  have h2:=h.2
  unfold Oper.uponIn at *
  split at h2
  · exact hn _ _ h2
  · exact hn _ _ h2
  · exact hn _ _ h2
  · refine ⟨h2.1,h2.2.1,fun cs hr=>?_⟩
    obtain ⟨e,w',fr,he,rest⟩:=h2.2.2 cs hr
    refine ⟨e,w',fr,?_,rest⟩
    cases e with
    | returned v=>exact hn _ _ he
    | panicked ch=>exact hq _ _ _ (by simp) he
    | outgrown=>obtain ⟨a,w,h⟩:=he;exact ⟨a,w,hq _ _ _ (by simp) h⟩
  · exact ⟨h2.1,h2.2.mono fun _ _=>hn _ _⟩
  · refine ⟨h2.1,h2.2.mono ?_⟩
    rintro e w' he
    cases e with
    | returned v=>exact hn _ _ he
    | panicked ch=>exact hq _ _ _ (by simp) he
    | outgrown=>obtain ⟨a,w,h⟩:=he;exact ⟨a,w,hq _ _ _ (by simp) h⟩
  · exact hq _ _ _ (by simp) h2
  · exact h2.elim
/-- Operations in two parts. -/
theorem wpList_cut {F:Fence} {m:Nat} {P:Program} {ops:Array Oper} {Q Qp:Exit → Act → World → Prop} {r:List Oper} (hq:∀ e a w,Qp e a w → e = .normal ∧ wpListIn F m P ops Q r a w) :
    ∀ (p:List Oper) (a:Act) (w:World),wpListIn F m P ops Qp p a w → wpListIn F m P ops Q (p ++ r) a w
  | [],a,w,h=>(hq _ _ _ h).2
  | o :: p,a,w,h=>by
    simp only [wpListIn,List.cons_append] at h ⊢
    split at h
    · rename_i hw;rw [if_pos hw]
      exact Oper_wpIn_mono' h (wpList_cut hq p) fun e a w hne h=>(hne (hq _ _ _ h).1).elim
    · rename_i hw;rw [if_neg hw]
      exact ⟨h.1,wpList_cut hq p _ _ h.2⟩
def RA (E:Env) (n:Nat) (al:Al) (a:Act) (W:World):Prop:=Rel (E.on none none) (fun _=>False) W sig0 al [] a ∧ a.tmps.size = n
def plA (al:Al):Bool:=al.all fun p=>plX p.2
theorem BRz (W:World):BR W sig0 (fun _=>False) []:=⟨fun l cells h=>by simp [lget] at h,fun l l' c c' β a s a' s' h=>by simp [lget] at h,fun l x h=>by simp [sig0] at h,fun β h=>h.elim,FR.none fun _ _ _ h=>h⟩
theorem noAv0 (β:Nat):¬ avOf sig0 [] β:=by
  rintro (⟨l,c,_,_,h,_⟩ | ⟨q,add,h⟩)
  · simp [lget] at h
  · exact h
section
variable {E:Env} {n:Nat} {al al1:Al} {a:Act} {W:World}
theorem RA_of (hGp:∀ g cells,lget E.G g = some cells → cells.all plX = true) {σ':Sig} (r:Rel (E.on none none) (fun _=>False) W σ' al [] a) (t:a.tmps.size = n) (hp:plA al = true):RA E n al a W:=
  ⟨⟨fun s x hx=>let ⟨v,h1,h2⟩:=r.tmps s x hx;⟨v,h1,h2.plX (List.all_eq_true.1 hp _ (mem_of_lget hx))⟩,BRz W,GV.keepX hGp r.globals (KeepX.refl 0 W) (fun β _ h=>h.elim (fun h=>h) fun h=>noAv0 β h),r.nodefer⟩,t⟩
theorem RA.sub (h:RA E n al a W) (hs:∀ p ∈ al1,lget al p.1 = some p.2):RA E n al1 a W:=
  ⟨⟨fun s x hx=>h.1.tmps s x (hs _ (mem_of_lget hx)),h.1.blocks,h.1.globals,h.1.nodefer⟩,h.2⟩
theorem RA.gv (h:RA E n al a W) (hGp:∀ g cells,lget E.G g = some cells → cells.all plX = true):GV0 E W:=GV.keepX hGp h.1.globals (KeepX.refl 0 W) fun _ _ h=>h
theorem grow_grown {W':World} {σ':Sig} (g:Grow top W sig0 [] W' σ' []):W.grownBy W' none:=⟨g.out.1,g.out.2.2,g.out.2.1,g.size,fun k hk _=>(g.keep k hk (noAv0 k)).2⟩
theorem RA_piece (hGp:∀ g cells,lget E.G g = some cells → cells.all plX = true) {c:Code} (h:AW (E.on none none) top n c (fun e al' L'=>e = .normal ∧ al' = al1 ∧ L' = []) al []) (hp:plA al1 = true) (ra:RA E n al a W) :
    c.wpIn (fen none) 0 E.P (fun e a' W'=>e = .normal ∧ RA E n al1 a' W' ∧ W.grownBy W' none) a W:=by
  refine wpIn_mono (h _ W sig0 a ra.1 ra.2) ?_
  rintro e a' W' ⟨al',L',σ',⟨rfl,rfl,rfl⟩,r',g',t'⟩
  exact ⟨rfl,RA_of hGp r' t' hp,grow_grown g'⟩
theorem RA_ops (hGp:∀ g cells,lget E.G g = some cells → cells.all plX = true) {ops:Array Oper} {rest:List Oper} (h:AWl (E.on none none) top n ops rest (fun e al' L'=>e = .normal ∧ al' = al1 ∧ L' = []) al []) (hp:plA al1 = true) (ra:RA E n al a W) :
    wpListIn (fen none) 0 E.P ops (fun e a' W'=>e = .normal ∧ RA E n al1 a' W' ∧ W.grownBy W' none) rest a W:=by
  refine wpListIn_mono ?_ _ _ _ (h _ W sig0 a ra.1 ra.2)
  rintro e a' W' ⟨al',L',σ',⟨rfl,rfl,rfl⟩,r',g',t'⟩
  exact ⟨rfl,RA_of hGp r' t' hp,grow_grown g'⟩
theorem leastN {p:Nat → Prop} (h:∃ k,p k):∃ k,p k ∧ ∀ j,p j → k ≤ j:=by
  obtain ⟨k,hk⟩:=h
  induction k using Nat.strongRecOn with
  | _ k ih=>
    by_cases h:∃ j,j < k ∧ p j
    · obtain ⟨j,h1,h2⟩:=h;exact ih j h1 h2
    · exact ⟨k,hk,fun j hj=>Nat.le_of_not_lt fun h1=>h ⟨j,h1,hj⟩⟩
/-- A loop whose rounds sink a number. -/
theorem wpIn_loopN {F:Fence} {m:Nat} {P:Program} {Q:Exit → Act → World → Prop} {c:Code} (I:Nat → Act → World → Prop) {k:Nat} (h0:I k a W)
    (round:∀ k a w,I k a w → c.wpIn F m P (Exit.then (fun a' w'=>∃ j,j < k ∧ I j a' w') Q) a w):(Code.loop c).wpIn F m P Q a W:=by
  classical
  let μ:Act → World → Nat:=fun a w=>if h:∃ k,I k a w then (leastN h).choose else 0
  refine wpIn_loop (fun a w=>∃ k,I k a w) μ ⟨k,h0⟩ fun a w hI=>?_
  have e:μ a w = (leastN hI).choose:=dif_pos hI
  refine wpIn_mono (round _ a w (leastN hI).choose_spec.1) fun e' a' w' q=>?_
  cases e' with
  | normal=>
    obtain ⟨j,hj,hI'⟩:=q
    refine ⟨⟨j,hI'⟩,?_⟩
    have e2:μ a' w' = (leastN ⟨j,hI'⟩).choose:=dif_pos ⟨j,hI'⟩
    rw [e,e2]
    exact Nat.lt_of_le_of_lt ((leastN ⟨j,hI'⟩).choose_spec.2 j hI') hj
  | _=>exact q
end
/-- The numbers of the set bits, from a word on; so many steps at most. -/
def stopsF (tz:Int → Option Int) (atf:Int → Int → Int) (nx:Int → Int) (ws:List Int):Nat → Nat → Int → Option (List Int)
  | 0,_,_=>none
  | k + 1,i,w=>if w = 0 then (match ws[i + 1]? with
      | some w'=>stopsF tz atf nx ws k (i + 1) w'
      | none=>some [])
    else (tz w).bind fun z=>if 200 ≤ atf i z then some [] else (stopsF tz atf nx ws k i (nx w)).map (atf i z :: ·)
def outF (tz:Int → Option Int) (atf:Int → Int → Int) (nx:Int → Int) (ws:List Int) (k i:Nat):Option (List Int):=match ws[i]? with
  | some w=>stopsF tz atf nx ws k i w
  | none=>some []
end Go.SH
namespace Go.SH
section
variable {E:Env} {n:Nat}
def AO (l:Nat) (tc:List PV) (i:Int):Al:=[(0,.raw l),(6,.agg tc),(7,.int .i64 i)]
def AI (l:Nat) (tc:List PV) (i w:Int):Al:=(4,.int .u64 w) :: (3,.int .i64 i) :: AO l tc i
def A5 (l:Nat) (tc:List PV) (i w x:Int):Al:=(5,.int .i64 x) :: AI l tc i w
abbrev is1 (al1:Al):Exit → Al → Lb → Prop:=fun e al' L'=>e = .normal ∧ al' = al1 ∧ L' = []
/-- One operation: a round is called. -/
theorem round_op (hGp:∀ g cells,lget E.G g = some cells → cells.all plX = true) {ops:Array Oper} {rest:List Oper} {ty:TypeId} {pos:String} {after:Array Edge} {tys:Array TypeId} {l:Nat} {x:Int} {al:Al} {a:Act} {W:World}
    {Q:Exit → Act → World → Prop} {g:Option (Nat × Bool)} (hw:wants ops al ⟨some 27,.call ⟨.value (.tmp 25),#[.tmp 26],tys⟩,ty,pos,after,g⟩ = some true) (h25:lget al 25 = some (.raw l)) (h26:lget al 26 = some (.int .i64 x)) (hn:27 < n) (hp:plA al = true)
    (ra:RA E n al a W) {R:Bool → World → Prop} (hy:YAt E.P l #[.int .i64 x] W fun e W'=>GV0 E W' ∧ ((e = .returned (.bool true) ∧ R true W') ∨ (e = .returned (.bool false) ∧ R false W')))
    (k:∀ b a' W',RA E n ((27,.bool b) :: al) a' W' → R b W' → wpListIn (fen none) 0 E.P ops Q rest a' W') :
    wpListIn (fen none) 0 E.P ops Q (⟨some 27,.call ⟨.value (.tmp 25),#[.tmp 26],tys⟩,ty,pos,after,g⟩ :: rest) a W:=by
  obtain ⟨v,e1,e2⟩:=ra.1.tmps 25 _ h25
  obtain ⟨u,e3,e4⟩:=ra.1.tmps 26 _ h26
  cases e2
  cases e4
  simp only [wpListIn]
  rw [if_pos (wants_ok ra.1 hw)]
  refine ⟨fun _ _=>trivial,?_⟩
  rw [Oper.semAt_eq _ _ _ (fun c h=>by cases h)]
  obtain ⟨fn,tmps,assign,body,hyl,hR⟩:=hy
  have g25:a.eval (.tmp 25) = .func (.yield l) #[] #[]:=eval_tmp e1
  have g26:a.eval (.tmp 26) = .int .i64 x:=eval_tmp e3
  have hrun:(execOp a.eval ⟨some 27,.call ⟨.value (.tmp 25),#[.tmp 26],tys⟩,ty,pos,after,g⟩).run E.P W = .ok (.round l fn tmps assign body) W:=by
    simp [execOp,resolve,Deferred.ofValue,g25,g26,invoke,hyl]
  rw [hrun,Oper.uponIn_round]
  refine ⟨fun h=>by simp [Fence.wide] at h,hR.mono ?_⟩
  have fin:∀ b W',GV0 E W' → R b W' → wpListIn (fen none) 0 E.P ops Q rest (a.put (some 27) (.bool b)) W':=fun b W' hg hr=>by
    refine k b _ W' ⟨⟨fun s y hs=>?_,BRz W',GV.keepX hGp hg (KeepX.refl 0 W') (fun β _ h=>h.elim (fun h=>h) fun h=>noAv0 β h),?_⟩,?_⟩ hr
    · simp only [lget] at hs
      split at hs
      · rename_i e;subst e;simp at hs;subst hs
        refine ⟨.bool b,?_,.bool b⟩
        simp [Act.put,ra.2,hn]
      · rename_i e
        obtain ⟨v,f1,f2⟩:=ra.1.tmps s y hs
        refine ⟨v,?_,f2.plX (List.all_eq_true.1 hp _ (mem_of_lget hs))⟩
        simp only [Act.put]
        rw [Array.getElem?_setIfInBounds_ne e];exact f1
    · have:=ra.1.nodefer
      show Marks W' none (a.put (some 27) (.bool b)).defers
      rw [put_defers];exact this
    · rw [size_put];exact ra.2
  rintro e W' ⟨hg,⟨rfl,hr⟩ | ⟨rfl,hr⟩⟩
  · exact fin true W' hg hr
  · exact fin false W' hg hr
theorem iter_ok (h0:E.on none none = E) (hGp:∀ g cells,lget E.G g = some cells → cells.all plX = true) {f:FuncId} {fn:Func} {c:Code} (hf:E.P.funcs[f]? = some fn) (hb:fn.body = some c) (hres:fn.results.toList = []) (hn:27 < fn.ntmps)
    {tc:List PV} (htc:tc.all plP = true) {ws:List Int} (hws:ws.length = 4) {tz:Int → Option Int} {atf:Int → Int → Int} {nx:Int → Int} {r0 r1 r2 r3 r4 r5 r7:Code} {ops:Array Oper} {id:Nat} {p1 p2 p4:List Oper} {ty:TypeId} {pos:String} {after:Array Edge} {tys:Array TypeId} {g:Option (Nat × Bool)}
    (hc:c = .seq r0 (.block 0 (.loop (.seq r1 (.seq (.cond (.tmp 8) .skip (.exit 0)) (.seq (.block 1 (.seq r2 (.block 2 (.loop (.seq (.seq r3 (.cond (.tmp 12) .skip (.exit 2))) (.seq (.block 3 (.seq r5 (.seq (.region id ops false) (.cond (.tmp 29) .ret .skip)))) r4)))))) r7))))))
    (hops:ops.toList = p1 ++ (p2 ++ (⟨some 27,.call ⟨.value (.tmp 25),#[.tmp 26],tys⟩,ty,pos,after,g⟩ :: p4)))
    (hw:∀ l i w x,wants ops ((25,.raw l) :: (26,.int .i64 x) :: (24,.bool false) :: A5 l tc i w x) ⟨some 27,.call ⟨.value (.tmp 25),#[.tmp 26],tys⟩,ty,pos,after,g⟩ = some true)
    (q0:∀ l,AW E top fn.ntmps r0 (is1 (AO l tc 0)) [(0,.raw l),(1,.rop tc 0)] [])
    (q1:∀ l i,AW E top fn.ntmps r1 (is1 ((8,.bool (decide (i < 4))) :: AO l tc i)) (AO l tc i) [])
    (q2:∀ l (i:Nat) w,ws[i]? = some w → AW E top fn.ntmps r2 (is1 (AI l tc i w)) (AO l tc i) [])
    (q3:∀ l i w,AW E top fn.ntmps r3 (is1 ((12,.bool (w != 0)) :: AI l tc i w)) (AI l tc i w) [])
    (q5:∀ l i w z,tz w = some z → AW E top fn.ntmps r5 (is1 (A5 l tc i w (atf i z))) (AI l tc i w) [])
    (k1:∀ l i w x,AWl E top fn.ntmps ops p1 (is1 ((24,.bool (decide (x ≥ 200))) :: A5 l tc i w x)) (A5 l tc i w x) [])
    (k2:∀ l i w x,AWl E top fn.ntmps ops (p2 ++ (⟨some 27,.call ⟨.value (.tmp 25),#[.tmp 26],tys⟩,ty,pos,after,g⟩ :: p4)) (is1 ((29,.bool true) :: A5 l tc i w x)) ((24,.bool true) :: A5 l tc i w x) [])
    (k3:∀ l i w x,AWl E top fn.ntmps ops p2 (is1 ((25,.raw l) :: (26,.int .i64 x) :: (24,.bool false) :: A5 l tc i w x)) ((24,.bool false) :: A5 l tc i w x) [])
    (k4:∀ l i w x b,AWl E top fn.ntmps ops p4 (is1 ((29,.bool (!b)) :: A5 l tc i w x)) ((27,.bool b) :: (25,.raw l) :: (26,.int .i64 x) :: (24,.bool false) :: A5 l tc i w x) [])
    (q4:∀ l i w x,AW E top fn.ntmps r4 (is1 (AI l tc i (nx w))) (A5 l tc i w x) [])
    (q7:∀ l i,AW E top fn.ntmps r7 (is1 (AO l tc (IntKind.wrap .i64 (i + 1)))) (AO l tc i) [])
    {k:Nat} {full:List Int} (hfull:outF tz atf nx ws k 0 = some full):IterC E f [.rop tc 0] full:=by
  intro W0 cs l J Jx hlc hcv hgv hJ hJx hround hj0
  have pl0:∀ i,plA (AO l tc i) = true:=fun i=>by simp [plA,AO,plX,plP,htc]
  have plI:∀ i w,plA (AI l tc i w) = true:=fun i w=>by simp [plA,AI,AO,plX,plP,htc]
  have pl5:∀ i w x,plA (A5 l tc i w x) = true:=fun i w x=>by simp [plA,A5,AI,AO,plX,plP,htc]
  have pc:∀ {al:Al} {t:Nat} {x:PV},plX x = true → plA al = true → plA ((t,x) :: al) = true:=fun h1 h2=>by simp only [plA,List.all_cons,Bool.and_eq_true];exact ⟨h1,h2⟩
  have tail:∀ {al:Al} {t:Nat} {x:PV},lget al t = none → ∀ p ∈ al,lget al p.1 = some p.2 → lget ((t,x) :: al) p.1 = some p.2:=fun h p hp h2=>by
    simp only [lget]
    split
    · rename_i e;subst e;rw [h] at h2;simp at h2
    · exact h2
  let Fin:Exit → Act → World → Prop:=fun e a W=>(e = .normal ∨ e = .ret) ∧ (∃ al,RA E fn.ntmps al a W) ∧ (J full W ∨ ∃ pre,pre <+: full ∧ Jx pre W)
  obtain ⟨c0,rfl⟩:∃ c0,cs = [c0]:=by
    cases cs with
    | nil=>simp at hlc
    | cons c r=>cases r with
      | nil=>exact ⟨c,rfl⟩
      | cons _ _=>simp at hlc
  refine calls_of_wp hf hb ((wpIn_wide (n:=0)).1 (wpIn_mono (Q:=Fin) ?_ ?_))
  rotate_left
  · rintro e a W ⟨he,⟨al,hra⟩,hfin⟩
    obtain ⟨v,h1,h2⟩:=run_results (fn:=fn) hra.1 (xs:=[]) (by rw [hres];rfl)
    have hd:a.defers = []:=hra.1.nodefer
    rcases he with rfl | rfl <;> exact ⟨hd,v,h1,⟨v,rfl⟩,hfin⟩
  have ra0:RA E fn.ntmps [(0,.raw l),(1,.rop tc 0)] { tmps:=(#[.func (.yield l) #[] #[]] ++ [c0].toArray) ++ Array.replicate (fn.ntmps - (#[Value.func (.yield l) #[] #[]] ++ [c0].toArray).size) undef,defers:=[] } W0:=by
    refine ⟨⟨fun s x hs=>?_,BRz W0,GV.keepX hGp hgv (KeepX.refl 0 W0) (fun β _ h=>h.elim (fun h=>h) fun h=>noAv0 β h),rfl⟩,?_⟩
    · simp only [lget] at hs
      split at hs
      · rename_i e;subst e;simp at hs;subst hs
        exact ⟨_,by rw [Array.getElem?_append_left (by simp)];rfl,.raw l⟩
      · split at hs
        · rename_i e;subst e;simp at hs;subst hs
          refine ⟨c0,by rw [Array.getElem?_append_left (by simp)];rfl,?_⟩
          have:=hcv 0 _ c0 rfl rfl
          cases this with
          | rop cs him hl hv=>exact .rop cs ⟨him.lt,fun h=>h.elim (fun h=>h) fun h=>noAv0 _ h,him.cell⟩ hl fun i x v hx hc=>(hv i x v hx hc).plP (List.all_eq_true.1 htc x (List.mem_of_getElem? hx))
        · simp at hs
    · simp;omega
  subst hc
  refine wpIn_seq (wpIn_mono (RA_piece hGp (h0 ▸ q0 l) (pl0 0) ra0) ?_)
  rintro e a W ⟨rfl,ra,hg⟩
  let IO:Nat → Act → World → Prop:=fun m a W=>∃ (i:Nat) (pre rest:List Int),i ≤ 4 ∧ RA E fn.ntmps (AO l tc i) a W ∧ J pre W ∧ pre ++ rest = full ∧ outF tz atf nx ws m i = some rest
  refine wpIn_block (wpIn_loopN IO (k:=k) ⟨0,[],full,by omega,ra,hJ _ _ _ hj0 hg,rfl,hfull⟩ ?_)
  rintro m a W ⟨i,pre,rest,hi,ra,hj,hpre,hout⟩
  refine wpIn_seq (wpIn_mono (RA_piece hGp (h0 ▸ q1 l i) (pc rfl (pl0 i)) ra) ?_)
  rintro e a W' ⟨rfl,ra,hg⟩
  have hj:=hJ _ _ _ hj hg
  have ra8:=ra.1.tmps 8 _ rfl
  obtain ⟨v8,e8,hv8⟩:=ra8
  cases hv8
  refine wpIn_seq (wpIn_cond_split (eval_tmp e8) (fun hb=>wpIn_skip ?_) fun hb=>wpIn_exit ?_)
  rotate_left
  · -- all words are done
    have hi4:i = 4:=by have:=of_decide_eq_false hb;omega
    subst hi4
    have:outF tz atf nx ws m 4 = some []:=by simp [outF,hws]
    rw [this] at hout;simp at hout;subst hout
    show Fin .normal a W'
    refine ⟨.inl rfl,⟨_,ra⟩,.inl ?_⟩
    rw [← hpre,List.append_nil];exact hj
  · have hi4:i < 4:=by have:=of_decide_eq_true hb;omega
    obtain ⟨w0,hw0⟩:∃ w,ws[i]? = some w:=⟨ws[i]'(by omega),List.getElem?_eq_getElem (by omega)⟩
    have ra:=ra.sub (al1:=AO l tc i) fun p hp=>by
      simp only [AO,List.mem_cons,List.not_mem_nil,or_false] at hp
      rcases hp with rfl | rfl | rfl <;> rfl
    show (Code.seq (.block 1 _) r7).wpIn _ _ _ _ a W'
    refine wpIn_seq (wpIn_block (wpIn_seq (wpIn_mono (RA_piece hGp (h0 ▸ q2 l i w0 hw0) (plI i w0) ra) ?_)))
    rintro e a W2 ⟨rfl,ra,hg⟩
    have hj:=hJ _ _ _ hj hg
    have hst:stopsF tz atf nx ws m i w0 = some rest:=by simpa [outF,hw0] using hout
    let II:Nat → Act → World → Prop:=fun j a W=>∃ (w:Int) (pre rest:List Int),j ≤ m ∧ RA E fn.ntmps (AI l tc i w) a W ∧ J pre W ∧ pre ++ rest = full ∧ stopsF tz atf nx ws j i w = some rest
    refine wpIn_block (wpIn_loopN II (k:=m) ⟨w0,pre,rest,Nat.le_refl _,ra,hj,hpre,hst⟩ ?_)
    clear ra hj hpre hst hout
    rintro j a W ⟨w,pre,rest,hjm,ra,hj,hpre,hst⟩
    refine wpIn_seq (wpIn_seq (wpIn_mono (RA_piece hGp (h0 ▸ q3 l i w) (pc rfl (plI i w)) ra) ?_))
    rintro e a W' ⟨rfl,ra,hg⟩
    have hj:=hJ _ _ _ hj hg
    obtain ⟨v12,e12,hv12⟩:=ra.1.tmps 12 _ rfl
    cases hv12
    cases j with
    | zero=>simp [stopsF] at hst
    | succ j=>
    refine wpIn_cond_split (eval_tmp e12) (fun hb=>wpIn_skip ?_) fun hb=>wpIn_exit ?_
    rotate_left
    · -- this word is done
      have hw:w = 0:=by simpa using hb
      subst hw
      simp only [stopsF,if_pos] at hst
      have ra:=ra.sub (al1:=AO l tc i) fun p hp=>by
        simp only [AO,List.mem_cons,List.not_mem_nil,or_false] at hp
        rcases hp with rfl | rfl | rfl <;> rfl
      simp only [Exit.then,Exit.inBlock,if_pos]
      show (Code.wpIn _ _ _ r7 _ a W')
      refine wpIn_mono (RA_piece hGp (h0 ▸ q7 l i) (pl0 _) ra) ?_
      rintro e a W3 ⟨rfl,ra,hg⟩
      rw [wrap_small (by omega) (by omega)] at ra
      refine ⟨j,by omega,i + 1,pre,rest,by omega,by exact_mod_cast ra,hJ _ _ _ hj hg,hpre,?_⟩
      simpa [outF] using hst
    · have hwz:w ≠ 0:=by simpa using hb
      have ra:=ra.sub (al1:=AI l tc i w) fun p hp=>by
        simp only [AI,AO,List.mem_cons,List.not_mem_nil,or_false] at hp
        rcases hp with rfl | rfl | rfl | rfl | rfl <;> rfl
      simp only [stopsF,if_neg hwz] at hst
      cases hz:tz w with
      | none=>rw [hz] at hst;simp at hst
      | some z=>
      rw [hz] at hst
      simp only [Option.bind_some] at hst
      show (Code.seq (.block 3 _) r4).wpIn _ _ _ _ a W'
      refine wpIn_seq (wpIn_block (wpIn_seq (wpIn_mono (RA_piece hGp (h0 ▸ q5 l i w z hz) (pl5 i w _) ra) ?_)))
      rintro e a W3 ⟨rfl,ra,hg⟩
      have hj:=hJ _ _ _ hj hg
      generalize hx:atf i z = x at ra hst
      show (Code.seq _ _).wpIn _ _ _ _ a W3
      refine wpIn_seq (wpIn_region_list ?_)
      rw [hops]
      have behind:∀ b a W,RA E fn.ntmps ((29,.bool (!b)) :: A5 l tc i w x) a W → (b = true → x < 200 ∧ J (pre ++ [x]) W) → (b = false → J full W ∨ ∃ pre,pre <+: full ∧ Jx pre W) →
          (Code.cond (.tmp 29) .ret .skip).wpIn (fen none) 0 E.P (Exit.inBlock 3 (Exit.then (Code.wpIn (fen none) 0 E.P r4 (Exit.then (fun a' w'=>∃ j',j' < j + 1 ∧ II j' a' w') (Exit.inBlock 2 (Exit.inBlock 1 (Exit.then (Code.wpIn (fen none) 0 E.P r7 (Exit.then (fun a' w'=>∃ j,j < m ∧ IO j a' w') (Exit.inBlock 0 Fin))) (Exit.then (fun a' w'=>∃ j,j < m ∧ IO j a' w') (Exit.inBlock 0 Fin))))))) (Exit.then (fun a' w'=>∃ j',j' < j + 1 ∧ II j' a' w') (Exit.inBlock 2 (Exit.inBlock 1 (Exit.then (Code.wpIn (fen none) 0 E.P r7 (Exit.then (fun a' w'=>∃ j,j < m ∧ IO j a' w') (Exit.inBlock 0 Fin))) (Exit.then (fun a' w'=>∃ j,j < m ∧ IO j a' w') (Exit.inBlock 0 Fin)))))))) a W:=fun b a W ra hb1 hb2=>by
        obtain ⟨v29,e29,hv29⟩:=ra.1.tmps 29 _ rfl
        cases hv29
        refine wpIn_cond_split (eval_tmp e29) (fun hb=>wpIn_ret ?_) fun hb=>wpIn_skip ?_
        · exact ⟨.inr rfl,⟨_,ra⟩,hb2 (by simpa using hb)⟩
        · obtain ⟨hx2,hj⟩:=hb1 (by simpa using hb)
          rw [if_neg (by omega)] at hst
          obtain ⟨rest',hr1,hr2⟩:=Option.map_eq_some_iff.1 hst
          have ra:=ra.sub (al1:=A5 l tc i w x) fun p hp=>by
            simp only [A5,AI,AO,List.mem_cons,List.not_mem_nil,or_false] at hp
            rcases hp with rfl | rfl | rfl | rfl | rfl | rfl <;> rfl
          show Code.wpIn _ _ _ r4 _ a W
          refine wpIn_mono (RA_piece hGp (h0 ▸ q4 l i w x) (plI i _) ra) ?_
          rintro e a W4 ⟨rfl,ra,hg⟩
          refine ⟨j,by omega,nx w,pre ++ [x],rest',by omega,ra,hJ _ _ _ hj hg,?_,hr1⟩
          rw [← hpre,← hr2,List.append_assoc];rfl
      refine wpList_cut (Qp:=fun e a' W'=>e = .normal ∧ RA E fn.ntmps ((24,.bool (decide (x ≥ 200))) :: A5 l tc i w x) a' W' ∧ W3.grownBy W' none) ?_ p1 a W3 (RA_ops hGp (h0 ▸ k1 l i w x) (pc rfl (pl5 i w x)) ra)
      rintro e a W4 ⟨rfl,ra,hg⟩
      have hj:=hJ _ _ _ hj hg
      refine ⟨rfl,?_⟩
      by_cases hx2:200 ≤ x
      · rw [show decide (x ≥ 200) = true from decide_eq_true hx2] at ra
        refine wpListIn_mono ?_ _ _ _ (RA_ops hGp (h0 ▸ k2 l i w x) (pc rfl (pl5 i w x)) ra)
        rintro e a W5 ⟨rfl,ra,hg⟩
        refine behind false a W5 ra (by simp) fun _=>.inl ?_
        rw [if_pos hx2] at hst
        simp at hst;subst hst
        rw [← hpre,List.append_nil]
        exact hJ _ _ _ hj hg
      · rw [show decide (x ≥ 200) = false from decide_eq_false hx2] at ra
        rw [if_neg hx2] at hst
        obtain ⟨rest',hr1,hr2⟩:=Option.map_eq_some_iff.1 hst
        have hfp:(pre ++ [x]) <+: full:=⟨rest',by rw [← hpre,← hr2,List.append_assoc];rfl⟩
        refine wpList_cut (Qp:=fun e a' W'=>e = .normal ∧ RA E fn.ntmps ((25,.raw l) :: (26,.int .i64 x) :: (24,.bool false) :: A5 l tc i w x) a' W' ∧ W4.grownBy W' none) ?_ p2 a W4 (RA_ops hGp (h0 ▸ k3 l i w x) (pc rfl (pc rfl (pc rfl (pl5 i w x)))) ra)
        rintro e a W5 ⟨rfl,ra,hg⟩
        have hj:=hJ _ _ _ hj hg
        refine ⟨rfl,?_⟩
        refine round_op hGp (hw l i w x) rfl rfl hn (pc rfl (pc rfl (pc rfl (pl5 i w x)))) ra (R:=fun b W'=>if b = true then J (pre ++ [x]) W' else Jx (pre ++ [x]) W') ?_ ?_
        · have:=hround pre x W5 hj hfp (ra.gv hGp)
          simpa using this
        · intro b a W6 ra hR
          refine wpListIn_mono ?_ _ _ _ (RA_ops hGp (h0 ▸ k4 l i w x b) (pc rfl (pl5 i w x)) ra)
          rintro e a W7 ⟨rfl,ra,hg⟩
          cases b with
          | true=>exact behind true a W7 ra (fun _=>⟨by omega,hJ _ _ _ (by simpa using hR) hg⟩) (by simp)
          | false=>exact behind false a W7 ra (by simp) fun _=>.inr ⟨_,hfp,hJx _ _ _ (by simpa using hR) hg⟩
end
end Go.SH
namespace Go.SH
def isReg:Code → Bool
  | .region _ _ false=>true
  | _=>false
def opsOf:Code → Array Oper
  | .region _ ops _=>ops
  | _=>#[]
section
variable {E:Env} {K:Nat → Prop} {n:Nat} {al:Al} {L:Lb}
theorem pcx {c:Code} (ts:List Nat) (al1:Al) (L1:Lb) (hr:isReg c = true) (h:xrunK E.P E.G n (opsOf c) ts al L = some (al1,L1)):AW E K n c (fun e al' L'=>e = .normal ∧ al' = al1 ∧ L' = L1) al L:=by
  unfold isReg at hr
  split at hr
  · exact AW_regK ts al1 L1 h ⟨rfl,rfl,rfl⟩
  · simp at hr
theorem reg_eq {c:Code} (hr:isReg c = true):∃ id,c = .region id (opsOf c) false:=by
  unfold isReg at hr
  split at hr
  · exact ⟨_,rfl⟩
  · simp at hr
/-- Operations that run by themselves. -/
theorem pcl {ops:Array Oper} {p:List Oper} (ts:List Nat) (al1:Al) (L1:Lb) (h:(xrun E.P E.G n ops p.length p al L).map (fun s=>(keepS ts s.1,s.2)) = some (al1,L1)):AWl E K n ops p (fun e al' L'=>e = .normal ∧ al' = al1 ∧ L' = L1) al L:=by
  simp only [Option.map_eq_some_iff,Prod.mk.injEq] at h
  obtain ⟨⟨al2,L2⟩,h1,h2,rfl⟩:=h
  refine AWl_xrun p.length p al L al2 L2 h1 ?_
  rw [List.drop_length]
  exact AWl_nilK ts al1 h2 ⟨rfl,rfl,rfl⟩
end
theorem ACalls_drop {E:Env} {f:FuncId} {args:List PV} {v:PV} {LL:Lb} (h:ACalls E f args [] fun r L'=>r = v ∧ L' = LL) (hp:plX v = true):Pure E f args v:=by
  intro A w σ cargs h1 h2 h3 h4
  refine (h A w σ cargs h1 h2 h3 h4).mono ?_
  rintro e w' ⟨r,c,L',σ',rfl,⟨rfl,rfl⟩,hv,hb,hg⟩
  have hna:∀ β,¬ avOf σ' L' β → ¬ avOf (⟨fun _=>none,σ'.fam⟩:Sig) [] β:=fun β hn h=>by
    rcases h with ⟨l,c,_,_,h,_⟩ | ⟨q,add,h⟩
    · simp [lget] at h
    · exact hn (.inr ⟨q,add,h⟩)
  refine ⟨r,c,[],⟨fun _=>none,σ'.fam⟩,rfl,⟨rfl,rfl⟩,hv.plX hp,⟨fun l cells h=>by simp [lget] at h,fun l l' c c' β a s a' s' h=>by simp [lget] at h,fun l x h=>by simp at h,fun β hA=>⟨(hb.lo β hA).1,hna β (hb.lo β hA).2⟩,hb.fr.mono (Nat.le_refl _) (fun _ _ _ k=>k) (fun _ _ _ _=>rfl) fun q β add k h=>?_⟩,⟨hg.size,fun l y hk=>(hk rfl).elim,fun β hβ hn=>⟨hna β (hg.keep β hβ hn).1,(hg.keep β hβ hn).2⟩,hg.out,fun k=>(k rfl).elim⟩⟩
  obtain ⟨l,c,_,_,h,_⟩:=h
  simp [lget] at h
def cAs:Code → Code
  | .rangeFunc _ _ a _=>a
  | _=>.skip
def cBd:Code → Code
  | .rangeFunc _ _ _ b=>b
  | _=>.skip
def cThen:Code → Code
  | .cond _ a _=>a
  | _=>.skip
def tysOf (o:Oper):Array TypeId:=match o.op with
  | .call c=>c.argTypes
  | _=>#[]
section
variable {E:Env} {K:Nat → Prop} {n:Nat} {al:Al} {L:Lb} {Q:Exit → Al → Lb → Prop}
/-- A region with one call in it: what runs ahead. -/
theorem pcut {c:Code} (hr:isReg c = true) (k:Nat) (ts:List Nat) (al1:Al) (L1:Lb) (h:(xrun E.P E.G n (opsOf c) k (opsOf c).toList al L).map (fun s=>(keepS ts s.1,s.2)) = some (al1,L1)) (h2:AWl E K n (opsOf c) ((opsOf c).toList.drop k) Q al1 L1):AW E K n c Q al L:=by
  obtain ⟨id,e⟩:=reg_eq hr
  simp only [Option.map_eq_some_iff,Prod.mk.injEq] at h
  obtain ⟨⟨al2,L2⟩,h1,h3,rfl⟩:=h
  rw [e]
  exact AW_region (AWl_xrun k _ al L al2 L2 h1 (AWl_keep ts al1 h3 h2))
/-- .. and behind. -/
theorem pend {ops:Array Oper} {p:List Oper} (ts:List Nat) (al1:Al) (L1:Lb) (h:(xrun E.P E.G n ops p.length p al L).map (fun s=>(keepS ts s.1,s.2)) = some (al1,L1)) (hq:Q .normal al1 L1):AWl E K n ops p Q al L:=by
  simp only [Option.map_eq_some_iff,Prod.mk.injEq] at h
  obtain ⟨⟨al2,L2⟩,h1,h2,rfl⟩:=h
  refine AWl_xrun p.length p al L al2 L2 h1 ?_
  rw [List.drop_length]
  exact AWl_nilK ts al1 h2 hq
theorem pcall (hG:GOK E) {ops:Array Oper} {d:Nat} {fo arg:Operand} {tys:Array TypeId} {ty:TypeId} {pos:String} {after:Array Edge} {q:List Oper} {f:FuncId} {x v:PV} (ts:List Nat) (al1:Al) (L1:Lb)
    (hf:xev E.G al fo = some (.fn f [])) (hx:xevs E.G al [arg] = some [x]) (hrun:∀ args w,(callFunc f args).run E.P w = .ok (.enter f args) w) (hP:Pure E f [x] v) (hp:withinL (fun _=>false) [x] = true) (hd:decide (d < n) = true)
    (h:(xrun E.P E.G n ops q.length q ((d,v) :: al) L).map (fun s=>(keepS ts s.1,s.2)) = some (al1,L1)) (hq:Q .normal al1 L1) :
    AWl E K n ops (⟨some d,.call ⟨.value fo,#[arg],tys⟩,ty,pos,after,none⟩ :: q) Q al L:=
  AWl_o (AOp_callP (xs:=[x]) (caps:=[]) hG hrun hf hx hP hp) hd rfl rfl (pend ts al1 L1 h hq)
end
def tabCols (c:Int):Int:=let m:=if 200 < c then 200 else c;if m > 1 then m else 1
def tabAt (i z:Int):Int:=IntKind.wrap .i64 (IntKind.wrap .i64 (64 * i) + z)
def tabNx (w:Int):Int:=ibits .and .u64 w (IntKind.wrap .u64 (w - 1))
def nextS (at' c r x:Int):Int × Option (Option Nat):=if at' < x ∧ x < c then (x,some none) else (r,none)
def backS (at' r x:Int):Int × Option (Option Nat):=if at' ≤ x then (r,some (some 0)) else (x,none)
def nextR (c:Int) (p:Int × Option (Option Nat)):Int:=match p.2 with
  | some _=>p.1
  | none=>IntKind.wrap .i64 (c - 1)
def nextV (at' c:Int) (l:List Int):Int:=nextR c (runX (nextS at' c) 0 l)
def backV (at':Int) (l:List Int):Int:=(runX (backS at') 0 l).1
end Go.SH
