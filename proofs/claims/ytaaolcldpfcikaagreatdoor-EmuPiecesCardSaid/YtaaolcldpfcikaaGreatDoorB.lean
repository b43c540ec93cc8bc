/- Part 2 of: EmuPieces -/
import Derived.Test.YtaaolcldpfcikaaGreatDoorA
import Derived.Laws.Cover4
set_option linter.unusedVariables false
set_option linter.unusedSimpArgs false
set_option linter.unusedSectionVars false
noncomputable section
namespace Go.SH
inductive ET where
 | ti (k:IntKind) | tu | tb | ts | tn | tp (a c:ET) | tl (t:ET) | tf (q:Nat) (t:ET) | te (T:TypeId) | to (T:TypeId) (t:ET) | tq (t:ET) | tk (fs:List FuncId)
 deriving DecidableEq
@[reducible] def ET.T:ET->Type
 | .ti _=>Int
 | .tu=>UInt8
 | .tb=>Bool
 | .ts=>List UInt8
 | .tn=>Nat
 | .tp a c=>a.T×c.T
 | .tl t=>List t.T
 | .tf _ t=>List t.T
 | .te _=>Option Nat
 | .to _ t=>Option t.T
 | .tq t=>Option t.T
 | .tk _=>Nat
def eN:El Nat:=⟨fun x=>[.int .i64 x],1,fun _=>rfl,by decide,fun _=>rfl,fun _=>rfl⟩
def eP {α β:Type} (a:El α) (c:El β):El (α×β):=⟨fun x=>a.pv x.1++c.pv x.2,a.sz+c.sz,fun x=>by simp [a.hsz,c.hsz],by have:=a.hpos;omega,
 fun x=>by rw [fE,List.all_append,<-fE,<-fE,a.hpure,c.hpure];rfl,fun x=>by rw [List.all_append,a.hone,c.hone];rfl⟩
def eL {α:Type} (e:El α):El (List α):=⟨fun x=>[.ro (fl e x) x.length none],1,fun _=>rfl,by decide,fun x=>by simp [bY,pureF,em],fun _=>rfl⟩
def eF {α:Type} (q:Nat) (e:El α):El (List α):=⟨fun x=>[.fs q (fl e x) x.length none],1,fun _=>rfl,by decide,fun x=>by simp [bY,pureF,em],fun _=>rfl⟩
structure YK where
 n:Nat
 ps:List Nat
 assign:Code
 body:Code
 ts:List Nat
class SentA where
 f:Nat->Addr
 inj:∀i j,f i=f j->i=j
 extra:List (Nat×List PV)
 yt:Nat->YK
def eE [SentA] (T:TypeId):El (Option Nat):=⟨fun o=>[.ev T (o.map SentA.f)],1,fun _=>rfl,by decide,fun _=>rfl,fun _=>rfl⟩
def optI {α:Type} (T:TypeId) (e:El α):Option α->PV
 | none=>.nili
 | some x=>.iface T (.rop (e.pv x) 0)
def eO {α:Type} (T:TypeId) (e:El α):El (Option α):=⟨fun x=>[optI T e x],1,fun _=>rfl,by decide,fun x=>by cases x <;> simp [optI,bY,pureF,e.hpure],fun x=>by cases x <;> rfl⟩
def optQ {α:Type} (e:El α):Option α->PV
 | none=>.nilp
 | some x=>.rop (e.pv x) 0
def eQ {α:Type} (e:El α):El (Option α):=⟨fun x=>[optQ e x],1,fun _=>rfl,by decide,fun x=>by cases x <;> simp [optQ,bY,pureF,e.hpure],fun x=>by cases x <;> rfl⟩
def fnK (fs:List FuncId):Nat->PV
 | 0=>.nilf
 | i+1=>match fs[i]? with
  | some f=>.fn f []
  | none=>.nilf
theorem pL (fs:List FuncId) (i:Nat):fnK fs i = .nilf\/∃f,fnK fs i = .fn f []:=by
 cases i with
 | zero=>exact .inl rfl
 | succ i=>
  simp only [fnK]
  split
  ·exact .inr ⟨_,rfl⟩
  ·exact .inl rfl
theorem pK (fs:List FuncId) (i:Nat):pureF (fnK fs i)=true:=by rcases pL fs i with e | ⟨f,e⟩ <;> rw [e] <;> rfl
def eK (fs:List FuncId):El Nat:=⟨fun x=>[fnK fs x],1,fun _=>rfl,by decide,fun x=>by simp [bY,pK],fun x=>by rcases pL fs x with e | ⟨f,e⟩ <;> rw [e] <;> rfl⟩
variable [SentA]
def el:(t:ET)->El t.T
 | .ti k=>eI k
 | .tu=>eU8
 | .tb=>eB
 | .ts=>eS
 | .tn=>eN
 | .tp a c=>eP (el a) (el c)
 | .tl t=>eL (el t)
 | .tf q t=>eF q (el t)
 | .te T=>eE T
 | .to T t=>eO T (el t)
 | .tq t=>eQ (el t)
 | .tk fs=>eK fs
def ET.sz:ET->Nat
 | .tp a c=>a.sz+c.sz
 | _=>1
theorem jg:∀t:ET,(el t).sz=t.sz
 | .ti _=>rfl
 | .tu=>rfl
 | .tb=>rfl
 | .ts=>rfl
 | .tn=>rfl
 | .tp a c=>by show (el a).sz+(el c).sz=_;rw [jg a,jg c];rfl
 | .tl _=>rfl
 | .tf _ _=>rfl
 | .te _=>rfl
 | .to _ _=>rfl
 | .tq _=>rfl
 | .tk _=>rfl
theorem ET.sz_pos (t:ET):0<t.sz:=by rw [<-jg];exact (el t).hpos
inductive DV where
 | dead
 | int (k:IntKind) (n:Int)
 | by (x:UInt8)
 | bool (b:Bool)
 | str (s:List UInt8)
 | nilp | nils | nilf | nili
 | ptr (l off:Nat)
 | lp (l sz i k:Nat)
 | ep (t:ET) (l:List t.T) (i:Nat) (x:t.T) (k:Nat)
 | gp (t:ET) (l:List t.T)
 | sl (t:ET) (l:List t.T)
 | fsl (q:Nat) (t:ET) (l:List t.T)
 | rw (l sz off n:Nat) (co:Option Nat) (w:Bool)
 | fn (f:FuncId) (caps:List DV)
 | iface (t:TypeId) (v:DV)
 | ev (T:TypeId) (o:Option Nat)
 | oi (T:TypeId) (t:ET) (x:Option t.T)
 | oq (t:ET) (x:Option t.T)
 | fk (fs:List FuncId) (i:Nat)
 | yl (i:Nat) (vs:List DV)
 | agg (cs:List DV)
 | tup (vs:List DV)
 deriving Inhabited
mutual
def DV.pv:DV->PV
 | .dead=>.dead
 | .int k n=>.int k n
 | .by x=>.int .u8 x.toNat
 | .bool b=>.bool b
 | .str s=>.str s
 | .nilp=>.nilp
 | .nils=>.nils
 | .nilf=>.nilf
 | .nili=>.nili
 | .ptr l off=>.ptr l off
 | .lp l sz i k=>.ptr l (i*sz+k)
 | .ep t l i _ k=>.rop (fl (el t) l) (i*t.sz+k)
 | .gp t l=>.rop (fl (el t) l) 0
 | .sl t l=>.ro (fl (el t) l) l.length none
 | .fsl q t l=>.fs q (fl (el t) l) l.length none
 | .rw l sz off n co _=>.rw l (off*sz) n sz co
 | .fn f caps=>.fn f (DV.pvs caps)
 | .iface t v=>.iface t v.pv
 | .ev T o=>.ev T (o.map SentA.f)
 | .oi T t x=>optI T (el t) x
 | .oq t x=>optQ (el t) x
 | .fk fs i=>fnK fs i
 | .yl i vs=>.yld (SentA.yt i).n (SentA.yt i).ps (SentA.yt i).assign (SentA.yt i).body (SentA.yt i).ts (DV.pvs vs)
 | .agg cs=>.agg (DV.pvs cs)
 | .tup vs=>.tup (DV.pvs vs)
def DV.pvs:List DV->List PV
 | []=>[]
 | x::r=>x.pv::DV.pvs r
end
theorem nX:∀l:List DV,DV.pvs l=l.map DV.pv
 | []=>rfl
 | x::r=>by simp [DV.pvs,nX r]
theorem bO (a b:List DV):DV.pvs (a++b)=DV.pvs a++DV.pvs b:=by simp [nX]
theorem aB (a:List DV):(DV.pvs a).length=a.length:=by simp [nX]
theorem nW (a:List DV) (i:Nat):(DV.pvs a)[i]?=(a[i]?).map DV.pv:=by simp [nX]
theorem pq (a:List DV) (i:Nat):DV.pvs (a.take i)=(DV.pvs a).take i:=by simp [nX,List.map_take]
theorem pr (a:List DV) (i:Nat):DV.pvs (a.drop i)=(DV.pvs a).drop i:=by simp [nX,List.map_drop]
def ET.cells:(t:ET)->t.T->List DV
 | .ti k,x=>[.int k x]
 | .tu,x=>[.by x]
 | .tb,x=>[.bool x]
 | .ts,x=>[.str x]
 | .tn,x=>[.int .i64 (x:Nat)]
 | .tp a c,x=>a.cells x.1++c.cells x.2
 | .tl t,x=>[.sl t x]
 | .tf q t,x=>[.fsl q t x]
 | .te T,x=>[.ev T x]
 | .to T t,x=>[.oi T t x]
 | .tq t,x=>[.oq t x]
 | .tk fs,x=>[.fk fs x]
theorem kM:∀(t:ET) (x:t.T),DV.pvs (t.cells x)=(el t).pv x
 | .ti _,_=>rfl
 | .tu,_=>rfl
 | .tb,_=>rfl
 | .ts,_=>rfl
 | .tn,_=>rfl
 | .tp a c,x=>by show DV.pvs (a.cells x.1++c.cells x.2)=(el a).pv x.1++(el c).pv x.2;rw [bO,kM a,kM c]
 | .tl _,_=>rfl
 | .tf _ _,_=>rfl
 | .te _,_=>rfl
 | .to _ _,_=>rfl
 | .tq _,_=>rfl
 | .tk _,_=>rfl
def PLe (x y:PV):Prop:=∀w σ av v,VR w σ av x v->VR w σ av y v
theorem PLe.refl (x:PV):PLe x x:=fun _ _ _ _ h=>h
theorem PLe.trans {x y z:PV} (h:PLe x y) (h':PLe y z):PLe x z:=fun _ _ _ _ k=>h' _ _ _ _ (h _ _ _ _ k)
def CLe (xs ys:List PV):Prop:=xs.length=ys.length/\∀(i:Nat) (x y:PV),xs[i]?=some x->ys[i]?=some y->PLe x y
theorem CLe.refl (xs:List PV):CLe xs xs:=⟨rfl,fun i x y hx hy=>by rw [hx] at hy;simp at hy;subst hy;exact .refl _⟩
theorem CLe.nil:CLe [] []:=.refl _
theorem CLe.cons {x y:PV} {xs ys:List PV} (h:PLe x y) (r:CLe xs ys):CLe (x::xs) (y::ys):=⟨by simp [r.1],fun i a b ha hb=>by
 cases i with
 | zero=>simp at ha hb;subst ha;subst hb;exact h
 | succ i=>exact r.2 i a b (by simpa using ha) (by simpa using hb)⟩
theorem CLe.append {xs ys xs' ys':List PV} (h:CLe xs ys) (h':CLe xs' ys'):CLe (xs++xs') (ys++ys'):=by
 refine ⟨by simp [h.1,h'.1],fun i x y hx hy=>?_⟩
 have:=h.1
 by_cases hi:i<xs.length
 ·rw [List.getElem?_append_left hi] at hx;rw [List.getElem?_append_left (by omega)] at hy;exact h.2 i x y hx hy
 ·rw [List.getElem?_append_right (by omega)] at hx;rw [List.getElem?_append_right (by omega),<-this] at hy;exact h'.2 _ x y hx hy
theorem PLe.agg {xs ys:List PV} (h:CLe xs ys):PLe (.agg xs) (.agg ys):=by
 intro w σ av v hv
 cases hv with
 | agg cs hl hv=>
  refine .agg cs (h.1▸hl) fun i y u hy hu=>?_
  have hi:i<xs.length:=by rw [h.1];exact (List.getElem?_eq_some_iff.1 hy).1
  exact h.2 i _ y (List.getElem?_eq_getElem hi) hy _ _ _ _ (hv i _ u (List.getElem?_eq_getElem hi) hu)
theorem PLe.nilsRo:PLe .nils (.ro [] 0 none):=fun _ _ _ _ h=>by cases h;exact .roE _ _ (by simp)
theorem PLe.nilsFs {q:Nat}:PLe .nils (.fs q [] 0 none):=fun _ _ _ _ h=>by cases h;exact .fsE _ _ (by simp)
theorem PLe.niliEv {T:TypeId}:PLe .nili (.ev T none):=fun _ _ _ _ h=>by cases h;exact .ev T none (by simp)
def hdBy {α:Type} (f:DV->Option α):List DV->Option (α×List DV)
 | []=>none
 | d::r=>match f d with
  | some x=>some (x,r)
  | none=>none
def asI (k:IntKind):DV->Option Int
 | .int k' n=>if k'=k then some n else none
 | _=>none
def asY:DV->Option UInt8
 | .by x=>some x
 | .int k n=>if k = .u8/\0<=n/\n<256 then some (UInt8.ofNat n.toNat) else none
 | _=>none
def asB:DV->Option Bool
 | .bool x=>some x
 | _=>none
def asS:DV->Option (List UInt8)
 | .str x=>some x
 | _=>none
def asL (t:ET):DV->Option (List t.T)
 | .nils=>some []
 | .sl t' x=>if h:t'=t then some (h▸x) else none
 | _=>none
def asF (q:Nat) (t:ET):DV->Option (List t.T)
 | .nils=>some []
 | .fsl q' t' x=>if h:t'=t then if q'=q then some (h▸x) else none else none
 | _=>none
def asE (T:TypeId):DV->Option (Option Nat)
 | .nili=>some none
 | .ev T' o=>if T'=T then some o else none
 | _=>none
def asO (T:TypeId) (t:ET):DV->Option (Option t.T)
 | .nili=>some none
 | .oi T' t' x=>if h:t'=t then if T'=T then some (h▸x) else none else none
 | .iface T' (.gp t' [x])=>if h:t'=t then if T'=T then some (some (h▸x)) else none else none
 | _=>none
def asQ (t:ET):DV->Option (Option t.T)
 | .nilp=>some none
 | .oq t' x=>if h:t'=t then some (h▸x) else none
 | .gp t' [x]=>if h:t'=t then some (some (h▸x)) else none
 | _=>none
def fnIx (f:FuncId):List FuncId->Option Nat
 | []=>none
 | g::r=>match Nat.beq g f with
  | true=>some 0
  | false=>(fnIx f r).map (·+1)
theorem EM {f:FuncId}:∀{fs:List FuncId} {i:Nat},fnIx f fs=some i->fs[i]?=some f
 | [],i,h=>by simp [fnIx] at h
 | g::r,i,h=>by
  simp only [fnIx] at h
  split at h
  ·rename_i e;simp at h;subst h;rw [Nat.eq_of_beq_eq_true e];rfl
  ·cases hr:fnIx f r with
   | none=>rw [hr] at h;simp at h
   | some j=>rw [hr] at h;simp at h;subst h;simpa using EM hr
def asK (fs:List FuncId):DV->Option Nat
 | .nilf=>some 0
 | .fn f []=>(fnIx f fs).map (·+1)
 | .fk fs' i=>if fs'=fs then some i else none
 | _=>none
def ET.un:(t:ET)->List DV->Option (t.T×List DV)
 | .ti k=>hdBy (asI k)
 | .tu=>hdBy asY
 | .tb=>hdBy asB
 | .ts=>hdBy asS
 | .tn=>fun _=>none
 | .tl t=>hdBy (asL t)
 | .tf q t=>hdBy (asF q t)
 | .te T=>hdBy (asE T)
 | .to T t=>hdBy (asO T t)
 | .tq t=>hdBy (asQ t)
 | .tk fs=>hdBy (asK fs)
 | .tp a c=>fun cs=>match a.un cs with
  | some (x,r)=>match c.un r with
   | some (z,r')=>some ((x,z),r')
   | none=>none
  | none=>none
theorem aS {α:Type} {f:DV->Option α} {cs r:List DV} {x:α} (h:hdBy f cs=some (x,r)):∃d,cs=d::r/\f d=some x:=by
 cases cs with
 | nil=>simp [hdBy] at h
 | cons d cs=>
  simp only [hdBy] at h
  split at h
  ·rename_i y hy
   simp at h;obtain ⟨rfl,rfl⟩:=h
   exact ⟨d,rfl,hy⟩
  ·simp at h
theorem yh {k:IntKind} {d:DV} {x:Int} (h:asI k d=some x):d = .int k x:=by
 unfold asI at h
 split at h
 ·split at h
  ·rename_i e;simp at h;subst h;subst e;rfl
  ·simp at h
 ·simp at h
theorem A2 {d:DV} {x:UInt8} (h:asY d=some x):d.pv = .int .u8 x.toNat:=by
 unfold asY at h
 split at h
 ·simp at h;subst h;rfl
 ·split at h
  ·rename_i n e;simp at h;subst h
   obtain ⟨rfl,h0,h1⟩:=e
   simp only [DV.pv]
   congr 1
   simp
   omega
  ·simp at h
 ·simp at h
theorem A7 {d:DV} {x:Bool} (h:asB d=some x):d = .bool x:=by
 unfold asB at h
 split at h
 ·simp at h;subst h;rfl
 ·simp at h
theorem A3 {d:DV} {x:List UInt8} (h:asS d=some x):d = .str x:=by
 unfold asS at h
 split at h
 ·simp at h;subst h;rfl
 ·simp at h
theorem A4 {t:ET} {d:DV} {x:List t.T} (h:asL t d=some x):(d = .nils/\x=[])\/d = .sl t x:=by
 unfold asL at h
 split at h
 ·simp at h;subst h;exact .inl ⟨rfl,rfl⟩
 ·split at h
  ·rename_i e;subst e;simp at h;subst h;exact .inr rfl
  ·simp at h
 ·simp at h
theorem A6 {q:Nat} {t:ET} {d:DV} {x:List t.T} (h:asF q t d=some x):(d = .nils/\x=[])\/d = .fsl q t x:=by
 unfold asF at h
 split at h
 ·simp at h;subst h;exact .inl ⟨rfl,rfl⟩
 ·split at h
  ·rename_i e;subst e
   split at h
   ·rename_i e;subst e;simp at h;subst h;exact .inr rfl
   ·simp at h
  ·simp at h
 ·simp at h
theorem KR {T:TypeId} {d:DV} {x:Option Nat} (h:asE T d=some x):PLe d.pv (.ev T (x.map SentA.f)):=by
 unfold asE at h
 split at h
 ·simp at h;subst h;exact .niliEv
 ·split at h
  ·rename_i e;subst e;simp at h;subst h;exact .refl _
  ·simp at h
 ·simp at h
theorem KQ {T:TypeId} {t:ET} {d:DV} {x:Option t.T} (h:asO T t d=some x):PLe d.pv (optI T (el t) x):=by
 unfold asO at h
 split at h
 ·simp at h;subst h;exact .refl _
 ·split at h
  ·rename_i e;subst e
   split at h
   ·rename_i e;subst e;simp at h;subst h;exact .refl _
   ·simp at h
  ·simp at h
 ·split at h
  ·rename_i e;subst e
   split at h
   ·rename_i e;subst e;simp at h;subst h
    simp only [DV.pv,optI,cj,rO,List.append_nil];exact .refl _
   ·simp at h
  ·simp at h
 ·simp at h
theorem KO {t:ET} {d:DV} {x:Option t.T} (h:asQ t d=some x):PLe d.pv (optQ (el t) x):=by
 unfold asQ at h
 split at h
 ·simp at h;subst h;exact .refl _
 ·split at h
  ·rename_i e;subst e;simp at h;subst h;exact .refl _
  ·simp at h
 ·split at h
  ·rename_i e;subst e;simp at h;subst h
   simp only [DV.pv,optQ,cj,rO,List.append_nil];exact .refl _
  ·simp at h
 ·simp at h
theorem D2 {fs:List FuncId} {d:DV} {x:Nat} (h:asK fs d=some x):d.pv=fnK fs x:=by
 unfold asK at h
 split at h
 ·simp at h;subst h;rfl
 ·rename_i f
  cases hf:fnIx f fs with
  | none=>rw [hf] at h;simp at h
  | some j=>rw [hf] at h;simp at h;subst h;simp [DV.pv,DV.pvs,fnK,EM hf]
 ·split at h
  ·rename_i e;subst e;simp at h;subst h;rfl
  ·simp at h
 ·simp at h
theorem Gw:∀(t:ET) {cs r:List DV} {x:t.T},t.un cs=some (x,r)->∃ds,cs=ds++r/\CLe (DV.pvs ds) ((el t).pv x):=by
 intro t
 induction t with
 | ti k=>intro cs r x h;obtain ⟨d,rfl,h1⟩:=aS h;obtain rfl:=yh h1;exact ⟨[.int _ _],rfl,CLe.refl _⟩
 | tu=>intro cs r x h;obtain ⟨d,rfl,h1⟩:=aS h;exact ⟨[d],rfl,by rw [DV.pvs,A2 h1];exact CLe.refl _⟩
 | tb=>intro cs r x h;obtain ⟨d,rfl,h1⟩:=aS h;obtain rfl:=A7 h1;exact ⟨[.bool _],rfl,CLe.refl _⟩
 | ts=>intro cs r x h;obtain ⟨d,rfl,h1⟩:=aS h;obtain rfl:=A3 h1;exact ⟨[.str _],rfl,CLe.refl _⟩
 | tn=>intro cs r x h;simp [ET.un] at h
 | tl t _=>
  intro cs r x h;obtain ⟨d,rfl,h1⟩:=aS h
  rcases A4 h1 with ⟨rfl,rfl⟩ | rfl
  ·exact ⟨[.nils],rfl,.cons .nilsRo .nil⟩
  ·exact ⟨[.sl _ _],rfl,CLe.refl _⟩
 | tf q t _=>
  intro cs r x h;obtain ⟨d,rfl,h1⟩:=aS h
  rcases A6 h1 with ⟨rfl,rfl⟩ | rfl
  ·exact ⟨[.nils],rfl,.cons .nilsFs .nil⟩
  ·exact ⟨[.fsl _ _ _],rfl,CLe.refl _⟩
 | te T=>intro cs r x h;obtain ⟨d,rfl,h1⟩:=aS h;exact ⟨[d],rfl,.cons (KR h1) .nil⟩
 | to T t _=>intro cs r x h;obtain ⟨d,rfl,h1⟩:=aS h;exact ⟨[d],rfl,.cons (KQ h1) .nil⟩
 | tq t _=>intro cs r x h;obtain ⟨d,rfl,h1⟩:=aS h;exact ⟨[d],rfl,.cons (KO h1) .nil⟩
 | tk fs=>intro cs r x h;obtain ⟨d,rfl,h1⟩:=aS h;exact ⟨[d],rfl,by rw [DV.pvs,D2 h1];exact CLe.refl _⟩
 | tp a c iha ihc=>
  intro cs r x h
  simp only [ET.un] at h
  split at h
  ·rename_i x1 r1 h1
   split at h
   ·rename_i x2 r2 h2
    simp at h;obtain ⟨rfl,rfl⟩:=h
    obtain ⟨d1,rfl,e1⟩:=iha h1
    obtain ⟨d2,rfl,e2⟩:=ihc h2
    exact ⟨d1++d2,by simp,by rw [bO];exact e1.append e2⟩
   ·simp at h
  ·simp at h
def ET.one (t:ET) (cs:List DV):Option t.T:=match t.un cs with
 | some (x,[])=>some x
 | _=>none
theorem Di {t:ET} {cs:List DV} {x:t.T} (h:t.one cs=some x):CLe (DV.pvs cs) ((el t).pv x):=by
 unfold ET.one at h
 split at h
 ·rename_i y hy
  simp at h;subst h
  obtain ⟨ds,rfl,h2⟩:=Gw t hy
  simpa using h2
 ·simp at h
def ET.all (t:ET):Nat->List DV->Option (List t.T)
 | _,[]=>some []
 | 0,_::_=>none
 | f+1,c::cs=>match t.un (c::cs) with
  | some (x,r)=>match ET.all t f r with
   | some l=>some (x::l)
   | none=>none
  | none=>none
theorem D7 {t:ET}:∀{f:Nat} {cs:List DV} {l:List t.T},t.all f cs=some l->CLe (DV.pvs cs) (fl (el t) l)
 | _,[],l,h=>by simp [ET.all] at h;subst h;exact .nil
 | 0,_::_,l,h=>by simp [ET.all] at h
 | f+1,c::cs,l,h=>by
  simp only [ET.all] at h
  split at h
  ·rename_i x r hx
   split at h
   ·rename_i l' hl
    simp at h;subst h
    obtain ⟨ds,e1,e2⟩:=Gw t hx
    rw [e1,bO,cj]
    exact e2.append (D7 hl)
   ·simp at h
  ·simp at h
def ET.noF:ET->Bool
 | .tp a c=>a.noF&&c.noF
 | .tl t=>t.noF
 | .tf _ _=>false
 | .to _ t=>t.noF
 | .tq t=>t.noF
 | _=>true
theorem DD:∀(t:ET),t.noF=true->∀x:t.T,ag (fun _=>false) ((el t).pv x)=true:=by
 intro t
 induction t with
 | tp a c iha ihc=>
  intro h x
  simp only [ET.noF,Bool.and_eq_true] at h
  show ag _ ((el a).pv x.1++(el c).pv x.2)=true
  rw [ct,List.all_append,<-ct,<-ct,iha h.1,ihc h.2];rfl
 | tl t ih=>
  intro h x
  show ag _ [PV.ro (fl (el t) x) x.length none]=true
  simp only [ag,am,Bool.and_true]
  rw [ct,List.all_eq_true]
  intro y hy
  obtain ⟨z,_,hz⟩:=List.mem_flatMap.1 hy
  have:=ih h z
  rw [ct,List.all_eq_true] at this
  exact this y hz
 | tf q t _=>intro h;simp [ET.noF] at h
 | te T=>intro _ x;rfl
 | to T t ih=>
  intro h x
  cases x with
  | none=>rfl
  | some x=>
   show ag _ [PV.iface T (.rop ((el t).pv x) 0)]=true
   simp only [ag,am,Bool.and_true]
   exact ih h x
 | tq t ih=>
  intro h x
  cases x with
  | none=>rfl
  | some x=>
   show ag _ [PV.rop ((el t).pv x) 0]=true
   simp only [ag,am,Bool.and_true]
   exact ih h x
 | ti k=>intro _ x;rfl
 | tu=>intro _ x;rfl
 | tb=>intro _ x;rfl
 | ts=>intro _ x;rfl
 | tn=>intro _ x;rfl
 | tk fs=>
  intro _ x
  show ag _ [fnK fs x]=true
  rcases pL fs x with e | ⟨f,e⟩ <;> rw [e] <;> rfl
theorem hY {t:ET} (h:t.noF=true) (l:List t.T):ag (fun _=>false) (fl (el t) l)=true:=by
 rw [ct,List.all_eq_true]
 intro y hy
 obtain ⟨z,_,hz⟩:=List.mem_flatMap.1 hy
 have:=DD t h z
 rw [ct,List.all_eq_true] at this
 exact this y hz
inductive DC where
 | gone
 | cs (l:List DV)
 | ls (t:ET) (l:List t.T)
def DC.pv:DC->Option (List PV)
 | .gone=>none
 | .cs l=>some (DV.pvs l)
 | .ls t l=>some (fl (el t) l)
abbrev DAl:=List (Nat×DV)
abbrev DLb:=List (Nat×DC)
def dal (al:DAl):Al:=al.map fun p=>(p.1,p.2.pv)
def dlb (L:DLb):Lb:=L.map fun p=>(p.1,p.2.pv)
theorem ta {α β:Type} (f:α->β):∀(l:List (Nat×α)) (k:Nat),lget (l.map fun p=>(p.1,f p.2)) k=(lget l k).map f
 | [],_=>rfl
 | (j,x)::r,k=>by
  simp only [List.map_cons,lget]
  split
  ·rfl
  ·exact ta f r k
theorem aZ (al:DAl) (k:Nat):lget (dal al) k=(lget al k).map DV.pv:=ta _ _ _
theorem an (L:DLb) (k:Nat):lget (dlb L) k=(lget L k).map DC.pv:=ta _ _ _
theorem pz {α β:Type} (f:α->β):∀(l:List (Nat×α)) (k:Nat) (y:α),lset (l.map fun p=>(p.1,f p.2)) k (f y)=(lset l k y).map fun p=>(p.1,f p.2)
 | [],_,_=>rfl
 | (j,x)::r,k,y=>by
  simp only [List.map_cons,lset]
  split
  ·rfl
  ·simp [pz f r k y]
theorem py (L wl:DLb):lupd (dlb L) (dlb wl)=dlb (lupd L wl):=by
 induction wl generalizing L with
 | nil=>rfl
 | cons p r ih=>
  show lupd (lset (dlb L) p.1 p.2.pv) (dlb r)=dlb (lupd (lset L p.1 p.2) r)
  rw [<-ih,show lset (dlb L) p.1 p.2.pv=dlb (lset L p.1 p.2) from pz _ _ _ _]
mutual
def DV.ok:DV->Prop
 | .ep _ l i x _=>l[i]?=some x
 | .fn _ caps=>DV.oks caps
 | .iface _ v=>v.ok
 | .agg cs=>DV.oks cs
 | .tup vs=>DV.oks vs
 | .yl _ vs=>DV.oks vs
 | _=>True
def DV.oks:List DV->Prop
 | []=>True
 | x::r=>x.ok/\DV.oks r
end
theorem bS:∀{l:List DV},DV.oks l<->∀x∈l,x.ok
 | []=>by simp [DV.oks]
 | x::r=>by simp [DV.oks,bS]
theorem qe {l:List DV} (h:DV.oks l) {i:Nat} {x:DV} (hx:l[i]?=some x):x.ok:=bS.1 h x (List.mem_of_getElem? hx)
theorem fS:∀(t:ET) (x:t.T),DV.oks (t.cells x)
 | .ti _,_=>by simp [ET.cells,DV.oks,DV.ok]
 | .tu,_=>by simp [ET.cells,DV.oks,DV.ok]
 | .tb,_=>by simp [ET.cells,DV.oks,DV.ok]
 | .ts,_=>by simp [ET.cells,DV.oks,DV.ok]
 | .tn,_=>by simp [ET.cells,DV.oks,DV.ok]
 | .tp a c,x=>by
  have h1:=bS.1 (fS a x.1);have h2:=bS.1 (fS c x.2)
  refine bS.2 fun z hz=>?_
  rcases List.mem_append.1 hz with h | h
  ·exact h1 z h
  ·exact h2 z h
 | .tl _,_=>by simp [ET.cells,DV.oks,DV.ok]
 | .tf _ _,_=>by simp [ET.cells,DV.oks,DV.ok]
 | .te _,_=>by simp [ET.cells,DV.oks,DV.ok]
 | .to _ _,_=>by simp [ET.cells,DV.oks,DV.ok]
 | .tq _,_=>by simp [ET.cells,DV.oks,DV.ok]
 | .tk _,_=>by simp [ET.cells,DV.oks,DV.ok]
def DC.ok:DC->Prop
 | .cs l=>DV.oks l
 | _=>True
def alOk (al:DAl):Prop:=∀t x,lget al t=some x->x.ok
def lbOk (L:DLb):Prop:=∀l c,lget L l=some c->c.ok
end Go.SH
namespace Go.SH
open IntKind (i64 u64 i32 u8)
variable [SentA]
inductive WLe:Lb->Lb->Prop where
 | nil:WLe [] []
 | gone {l:Nat} {r r':Lb} (h:WLe r r'):WLe ((l,none)::r) ((l,none)::r')
 | cons {l:Nat} {xs ys:List PV} {r r':Lb} (h:CLe xs ys) (k:WLe r r'):WLe ((l,some xs)::r) ((l,some ys)::r')
theorem WLe.one {l:Nat} {xs ys:List PV} (h:CLe xs ys):WLe [(l,some xs)] [(l,some ys)]:=.cons h .nil
def LLe (L L':Lb):Prop:=∀l,(lget L l=none/\lget L' l=none)\/(lget L l=some none/\lget L' l=some none)\/∃xs ys,lget L l=some (some xs)/\lget L' l=some (some ys)/\CLe xs ys
theorem LLe.refl (L:Lb):LLe L L:=fun l=>by
 cases h:lget L l with
 | none=>exact .inl ⟨rfl,rfl⟩
 | some y=>cases y with
  | none=>exact .inr (.inl ⟨rfl,rfl⟩)
  | some xs=>exact .inr (.inr ⟨xs,xs,rfl,rfl,.refl _⟩)
theorem LLe.upd {wl wl':Lb} (h:WLe wl wl'):∀{L L':Lb},LLe L L'->LLe (lupd L wl) (lupd L' wl'):=by
 induction h with
 | nil=>exact fun h=>h
 | @gone l r r' _ ih=>
  intro L L' hL
  refine ih (L:=lset L l none) (L':=lset L' l none) fun k=>?_
  rw [ao,ao]
  split
  ·exact .inr (.inl ⟨rfl,rfl⟩)
  ·exact hL k
 | @cons l xs ys r r' hc _ ih=>
  intro L L' hL
  refine ih (L:=lset L l (some xs)) (L':=lset L' l (some ys)) fun k=>?_
  rw [ao,ao]
  split
  ·exact .inr (.inr ⟨xs,ys,rfl,rfl,hc⟩)
  ·exact hL k
theorem LLe.lav {L L':Lb} (h:LLe L L') (σ:Sig) (β:Nat):cd σ L' β<->cd σ L β:=by
 constructor
 ·rintro ⟨l,cells,a,s,h1,h2⟩
  rcases h l with ⟨_,h3⟩ | ⟨_,h3⟩ | ⟨xs,ys,h3,h4,_⟩
  ·rw [h3] at h1;simp at h1
  ·rw [h3] at h1;simp at h1
  ·exact ⟨l,xs,a,s,h3,h2⟩
 ·rintro ⟨l,cells,a,s,h1,h2⟩
  rcases h l with ⟨h3,_⟩ | ⟨h3,_⟩ | ⟨xs,ys,h3,h4,_⟩
  ·rw [h3] at h1;simp at h1
  ·rw [h3] at h1;simp at h1
  ·exact ⟨l,ys,a,s,h4,h2⟩
theorem LLe.av {L L':Lb} (h:LLe L L') (σ:Sig) (β:Nat):avOf σ L' β<->avOf σ L β:=or_congr (h.lav σ β) Iff.rfl
theorem LLe.avo {L L':Lb} (h:LLe L L') (A:Nat->Prop) (σ:Sig):Go.SH.avo A σ L'=Go.SH.avo A σ L:=by
 funext β
 show (A β\/avOf σ L' β)=(A β\/avOf σ L β)
 rw [propext (h.av σ β)]
theorem LLe.br {w:World} {σ:Sig} {A:Nat->Prop} {L L':Lb} (h:LLe L L') (hb:BR w σ A L):BR w σ A L':=by
 refine ⟨fun l ys hl=>?_,fun l l' c c' β a s a' s' h1 h2 h3 h4=>?_,fun l x hx=>?_,fun β hA=>⟨(hb.lo β hA).1,fun ha=>(hb.lo β hA).2 ((h.av σ β).1 ha)⟩,hb.fr.mono (Nat.le_refl _) (fun _ _ _ k=>k) (fun _ _ _ _=>rfl) fun _ β _ _=>(h.lav σ β).1⟩
 ·rcases h l with ⟨_,h3⟩ | ⟨_,h3⟩ | ⟨xs,ys',h3,h4,h5⟩
  ·rw [h3] at hl;simp at hl
  ·rw [h3] at hl;simp at hl
  ·rw [h4] at hl;simp at hl;subst hl
   rcases hb.all l xs h3 with ⟨h6,h7⟩ | ⟨β,add,size,c,T,fr,hB⟩
   ·exact .inl ⟨h6,by subst h7;exact List.eq_nil_of_length_eq_zero h5.1.symm⟩
   ·refine .inr ⟨β,add,size,c,T,fr,⟨hB.sig,hB.heap,hB.hsz,h5.1▸hB.fits,fun i y hy=>?_,hB.frs⟩⟩
    have hi:i<xs.length:=by rw [h5.1];exact (List.getElem?_eq_some_iff.1 hy).1
    obtain ⟨v,h6,h7⟩:=hB.vals i _ (List.getElem?_eq_getElem hi)
    rw [h.avo]
    exact ⟨v,h6,h5.2 i _ y (List.getElem?_eq_getElem hi) hy _ _ _ _ h7⟩
 ·rcases h l with ⟨_,h5⟩ | ⟨_,h5⟩ | ⟨xs,_,h5,_,_⟩
  ·rw [h5] at h1;simp at h1
  ·rw [h5] at h1;simp at h1
  ·rcases h l' with ⟨_,h6⟩ | ⟨_,h6⟩ | ⟨xs',_,h6,_,_⟩
   ·rw [h6] at h2;simp at h2
   ·rw [h6] at h2;simp at h2
   ·exact hb.inj l l' _ _ β a s a' s' h5 h6 h3 h4
 ·have:=hb.dom l x hx
  rcases h l with ⟨h3,_⟩ | ⟨_,h3⟩ | ⟨_,_,_,h3,_⟩
  ·exact absurd h3 this
  ·rw [h3];simp
  ·rw [h3];simp
theorem LLe.grow {K:Nat->Prop} {w w':World} {σ σ':Sig} {L M M':Lb} (h:LLe M M') (hg:Grow K w σ L w' σ' M):Grow K w σ L w' σ' M':=
 ⟨hg.size,hg.sig,fun β hb hn=>⟨fun ha=>(hg.keep β hb hn).1 ((h.av σ' β).1 ha),(hg.keep β hb hn).2⟩,hg.out,hg.fam⟩
theorem WLe.keys {wl wl':Lb} (h:WLe wl wl'):wl.map (·.1)=wl'.map (·.1):=by
 induction h with
 | nil=>rfl
 | gone _ ih=>simp [ih]
 | cons _ _ ih=>simp [ih]
theorem AOp.weak {E:Env} {o:Oper} {ra:Al} {rl:Lb} {x y:PV} {wl wl':Lb} (h:AOp E o ra rl x wl) (hx:PLe x y) (hw:WLe wl wl'):AOp E o ra rl y wl':=by
 intro A w σ al L a r h1 h2 h3
 have h3':∀p∈wl,lget rl p.1≠none\/lget L p.1=none:=by
  intro p hp
  have:p.1∈wl'.map (·.1):=hw.keys▸List.mem_map_of_mem hp
  obtain ⟨q,hq,e⟩:=List.mem_map.1 this
  rw [<-e];exact h3 q hq
 refine oC (h A w σ al L a r h1 h2 h3') ?_ (fun _ _ _ h=>h)
 rintro a' w' ⟨σ',c,e1,e2,e3,e4⟩
 have hL:=LLe.upd hw (LLe.refl L)
 refine ⟨σ',c,e1,?_,hL.br e3,hL.grow e4⟩
 rw [hL.avo]
 exact hx _ _ _ _ e2
abbrev DL:=List (Nat×Option Nat)
def lu (rl wl:DLb) (dl:DL):Prop:=∀p∈wl,(p.1,none)∈dl\/∃cs cs',lget rl p.1=some (.cs cs)/\p.2 = .cs cs'/\cs'.length=cs.length/\∀i,(p.1,some i) ∉ dl->cs'[i]?=cs[i]?
def wlOk (wl:DLb):Prop:=∀p∈wl,p.2.ok
def OpS (E:Env) (o:Oper) (ra:DAl) (rl:DLb) {R:Type} (k:DV->DLb->DL->Option R) (r:R):Prop:=
 ∃x wl dl,AOp E o (dal ra) (dlb rl) x.pv (dlb wl)/\x.ok/\wlOk wl/\lu rl wl dl/\k x wl dl=some r
section
variable {E:Env} {o:Oper} {ra:DAl} {rl:DLb} {R:Type} {k:DV->DLb->DL->Option R} {r:R}
theorem OpS.val {x:DV} (h:AOp E o (dal ra) (dlb rl) x.pv []) (hx:x.ok) (hk:k x [] []=some r):OpS E o ra rl k r:=
 ⟨x,[],[],h,hx,fun _ h=>by simp at h,fun _ h=>by simp at h,hk⟩
theorem OpS.new {x:DV} {l:Nat} {c:DC} (h:AOp E o (dal ra) (dlb rl) x.pv [(l,c.pv)]) (hx:x.ok) (hc:c.ok) (hk:k x [(l,c)] [(l,none)]=some r):OpS E o ra rl k r:=
 ⟨x,[(l,c)],[(l,none)],h,hx,fun p hp=>by simp at hp;subst hp;exact hc,fun p hp=>by simp at hp;subst hp;exact .inl (by simp),hk⟩
end
abbrev GTab:=List (Nat×Sigma fun t:ET=>List t.T)
def gtPV (G:GTab):List (Nat×List PV):=(G.map fun p=>(p.1,fl (el p.2.1) p.2.2))++SentA.extra
mutual
def ofPV:PV->Option DV
 | .int k n=>some (.int k n)
 | .bool b=>some (.bool b)
 | .str s=>some (.str s)
 | .nilp=>some .nilp
 | .nils=>some .nils
 | .nilf=>some .nilf
 | .nili=>some .nili
 | .agg cs=>match xe cs with | some l=>some (.agg l) | none=>none
 | .tup cs=>match xe cs with | some l=>some (.tup l) | none=>none
 | _=>none
def xe:List PV->Option (List DV)
 | []=>some []
 | x::r=>match ofPV x with
  | some d=>match xe r with
   | some l=>some (d::l)
   | none=>none
  | none=>none
end
mutual
theorem EB:∀(x:PV) {d:DV},ofPV x=some d->d.pv=x/\d.ok
 | .int _ _,d,h=>by simp [ofPV] at h;subst h;exact ⟨rfl,trivial⟩
 | .bool _,d,h=>by simp [ofPV] at h;subst h;exact ⟨rfl,trivial⟩
 | .str _,d,h=>by simp [ofPV] at h;subst h;exact ⟨rfl,trivial⟩
 | .nilp,d,h=>by simp [ofPV] at h;subst h;exact ⟨rfl,trivial⟩
 | .nils,d,h=>by simp [ofPV] at h;subst h;exact ⟨rfl,trivial⟩
 | .nilf,d,h=>by simp [ofPV] at h;subst h;exact ⟨rfl,trivial⟩
 | .nili,d,h=>by simp [ofPV] at h;subst h;exact ⟨rfl,trivial⟩
 | .agg cs,d,h=>by
  simp only [ofPV] at h;split at h
  ·rename_i l hl;simp at h;subst h;exact ⟨by simp [DV.pv,(nh cs hl).1],(nh cs hl).2⟩
  ·simp at h
 | .tup cs,d,h=>by
  simp only [ofPV] at h;split at h
  ·rename_i l hl;simp at h;subst h;exact ⟨by simp [DV.pv,(nh cs hl).1],(nh cs hl).2⟩
  ·simp at h
 | .dead,d,h=>by simp [ofPV] at h
 | .ptr _ _,d,h=>by simp [ofPV] at h
 | .rop _ _,d,h=>by simp [ofPV] at h
 | .ro _ _ _,d,h=>by simp [ofPV] at h
 | .rw _ _ _ _ _,d,h=>by simp [ofPV] at h
 | .fn _ _,d,h=>by simp [ofPV] at h
 | .iface _ _,d,h=>by simp [ofPV] at h
 | .yld _ _ _ _ _ _,d,h=>by simp [ofPV] at h
theorem nh:∀(x:List PV) {d:List DV},xe x=some d->DV.pvs d=x/\DV.oks d
 | [],d,h=>by simp [xe] at h;subst h;exact ⟨rfl,trivial⟩
 | x::r,d,h=>by
  simp only [xe] at h
  split at h
  ·rename_i a ha
   split at h
   ·rename_i l hl
    simp at h;subst h
    obtain ⟨h1,h2⟩:=EB x ha
    obtain ⟨h3,h4⟩:=nh r hl
    exact ⟨by simp [DV.pvs,h1,h3],h2,h4⟩
   ·simp at h
  ·simp at h
end
def dev (G:GTab) (al:DAl):Operand->Option DV
 | .tmp t=>lget al t
 | .const v=>match cpv v with
  | some p=>ofPV p
  | none=>none
 | .global g=>match lget G g with
  | some s=>some (.gp s.1 s.2)
  | none=>none
 | .func f=>some (.fn f [])
theorem zo {α:Type}:∀{a b:List (Nat×α)} {k:Nat} {x:α},lget a k=some x->lget (a++b) k=some x
 | [],_,_,_,h=>by simp [lget] at h
 | (j,y)::r,b,k,x,h=>by
  simp only [lget,List.cons_append] at h ⊢
  split at h <;> rename_i e
  ·rw [if_pos e];exact h
  ·rw [if_neg e];exact zo h
theorem bj {G:GTab} {al:DAl} (hal:alOk al) {x:Operand} {d:DV} (h:dev G al x=some d):xev (gtPV G) (dal al) x=some d.pv/\d.ok:=by
 cases x with
 | tmp t=>
  simp only [dev] at h
  exact ⟨by simp only [xev];rw [aZ,h];rfl,hal t d h⟩
 | const v=>
  simp only [dev] at h
  split at h
  ·rename_i p hp
   obtain ⟨h1,h2⟩:=EB p h
   exact ⟨by simp only [xev];rw [hp,h1],h2⟩
  ·simp at h
 | global g=>
  simp only [dev] at h
  split at h
  ·rename_i s hs
   simp at h;subst h
   refine ⟨?_,trivial⟩
   simp only [xev,gtPV]
   rw [zo (x:=fl (el s.1) s.2) (by rw [ta (fun s:Sigma fun t:ET=>List t.T=>fl (el s.1) s.2),hs];rfl)]
   rfl
  ·simp at h
 | func f=>simp only [dev,Option.some.injEq] at h;subst h;exact ⟨rfl,trivial⟩
def devs (G:GTab) (al:DAl):List Operand->Option (List DV)
 | []=>some []
 | x::r=>match dev G al x with
  | some d=>match devs G al r with
   | some l=>some (d::l)
   | none=>none
  | none=>none
theorem qo {G:GTab} {al:DAl} (hal:alOk al):∀{xs:List Operand} {ds:List DV},devs G al xs=some ds->xevs (gtPV G) (dal al) xs=some (DV.pvs ds)/\DV.oks ds
 | [],ds,h=>by simp [devs] at h;subst h;exact ⟨rfl,trivial⟩
 | x::r,ds,h=>by
  simp only [devs] at h
  split at h
  ·rename_i d hd
   split at h
   ·rename_i l hl
    simp at h;subst h
    obtain ⟨h1,h2⟩:=bj hal hd
    obtain ⟨h3,h4⟩:=qo hal hl
    exact ⟨by simp [xevs,h1,h3,DV.pvs],h2,h4⟩
   ·simp at h
  ·simp at h
def ofInt:IntKind->Int->DV
 | .u8,n=>.by (UInt8.ofInt n)
 | k,n=>.int k n
theorem Ke {n:Int} (h:0<=n/\n<256):((UInt8.ofInt n).toNat:Int)=n:=by
 simp [UInt8.ofInt]
 omega
theorem ni {k:IntKind} {n:Int} (h:k = .u8->0<=n/\n<256):(ofInt k n).pv = .int k n:=by
 cases k <;> first | rfl | (show PV.int .u8 _=_;rw [Ke (h rfl)])
theorem nj (k:IntKind) (n:Int):(ofInt k n).ok:=by cases k <;> trivial
theorem ey (n:Int):0<=u8.wrap n/\u8.wrap n<256:=by
 rw [It]
 have:=(UInt8.ofInt n).toNat_lt
 omega
def EA:PV->Option DV
 | .int k n=>some (ofInt k n)
 | .bool b=>some (.bool b)
 | _=>none
def lg:DV->Option (IntKind×Int)
 | .int k n=>some (k,n)
 | .by x=>some (.u8,(x.toNat:Int))
 | _=>none
theorem iA {d:DV} {k:IntKind} {n:Int} (h:lg d=some (k,n)):d.pv = .int k n:=by
 unfold lg at h
 split at h <;> simp at h
 ·obtain ⟨rfl,rfl⟩:=h;rfl
 ·obtain ⟨rfl,rfl⟩:=h;rfl
end Go.SH
namespace Go.SH
variable [SentA]
def EC:DV->Bool
 | .int .u8 _=>false
 | _=>true
def J4 (P:Program) (op:BinOp) (T:TypeId) (x y:Operand) (a b:DV) {R:Type} (k:DV->Option R):Option R:=
 match xbin P op T x y a.pv b.pv with
 | some p=>match EA p with
  | some d=>k d
  | none=>none
 | none=>none
def dDiv (op:BinOp) (a b:DV) {R:Type} (k:DV->Option R):Option R:=
 match lg a,lg b with
 | some (ka,n),some (kb,m)=>match op with
  | .quo=>if ka=kb then req (m≠0) (k (ofInt ka (ka.wrap (n.tdiv m)))) else none
  | .rem=>if ka=kb/\EC a=true then req (m≠0) (k (ofInt ka (n.tmod m))) else none
  | .shl=>req (0<=m) (k (ofInt ka (ka.wrap (n*2^(min m.toNat ka.bits)))))
  | .shr=>if EC a=true then req (0<=m) (k (ofInt ka (n.fdiv (2^(min m.toNat ka.bits))))) else none
  | _=>none
 | _,_=>none
def Ax:BinOp->Bool
 | .quo=>true
 | .rem=>true
 | .shl=>true
 | .shr=>true
 | _=>false
def sR (P:Program) (op:BinOp) (T:TypeId) (x y:Operand) (n s r:PV) (c:Bool) {R:Type} (k:DV->Option R):Option R:=
 match op,xbin P op T x y n r,xbin P op T x y s r with
 | .eql,some (.bool true),some (.bool false)=>k (.bool c)
 | .neq,some (.bool false),some (.bool true)=>k (.bool (!c))
 | _,_,_=>none
theorem rG {P:Program} {op:BinOp} {T:TypeId} {x y:Operand} {n s r a:PV} {c:Bool} {R:Type} {k:DV->Option R} {z:R} (h:sR P op T x y n s r c k=some z)
  (h1:c=true->xbin P op T x y a r=xbin P op T x y n r) (h0:c=false->xbin P op T x y a r=xbin P op T x y s r):∃d,k (.bool d)=some z/\xbin P op T x y a r=some (.bool d):=by
 unfold sR at h
 split at h
 ·rename_i e1 e2
  refine ⟨c,h,?_⟩
  cases c
  ·rw [h0 rfl,e2]
  ·rw [h1 rfl,e1]
 ·rename_i e1 e2
  refine ⟨!c,h,?_⟩
  cases c
  ·rw [h0 rfl,e2];rfl
  ·rw [h1 rfl,e1];rfl
 ·simp at h
theorem Kd {P:Program} {T S:TypeId} {a b:Addr} (hr:dS P T=some false):xeq P 20 T [.ev S (some a)] [.nili]=xeq P 20 T [.ev S (some b)] [.nili]:=by
 unfold xeq
 unfold dS at hr
 cases hu:P.underlying T with
 | none=>rfl
 | some u=>rw [hu] at hr;cases u <;> first | rfl | simp at hr
theorem Kc {P:Program} {T S S':TypeId} {a b:PV} (hr:dS P T=some false):xeq P 20 T [.iface S a] [.nili]=xeq P 20 T [.iface S' b] [.nili]:=by
 unfold xeq
 unfold dS at hr
 cases hu:P.underlying T with
 | none=>rfl
 | some u=>rw [hu] at hr;cases u <;> first | rfl | simp at hr
theorem Kb {P:Program} {T:TypeId} {a b:List PV} {i j:Nat} (hr:dS P T=some false):xeq P 20 T [.rop a i] [.nilp]=xeq P 20 T [.rop b j] [.nilp]:=by
 unfold xeq
 unfold dS at hr
 cases hu:P.underlying T with
 | none=>rfl
 | some u=>rw [hu] at hr;cases u <;> first | rfl | simp at hr
theorem Is {P:Program} {op:BinOp} {T S:TypeId} {x y:Operand} {a b:Addr}:xbin P op T x y (.ev S (some a)) .nili=xbin P op T x y (.ev S (some b)) .nili:=by
 have:xeql P T x y (.ev S (some a)) .nili=xeql P T x y (.ev S (some b)) .nili:=by
  simp only [xeql]
  split
  ·rename_i h;simp only [Bool.and_eq_true,beq_iff_eq] at h;exact Kd h.2
  ·rfl
 cases op <;> first
  | (show (xeql _ _ _ _ _ _).map _=(xeql _ _ _ _ _ _).map _;rw [this])
  | rfl
theorem Ir {P:Program} {op:BinOp} {T S S':TypeId} {x y:Operand} {a b:PV}:xbin P op T x y (.iface S a) .nili=xbin P op T x y (.iface S' b) .nili:=by
 have:xeql P T x y (.iface S a) .nili=xeql P T x y (.iface S' b) .nili:=by
  simp only [xeql]
  split
  ·rfl
  ·rename_i h;exact Kc (by simpa using h)
 cases op <;> first
  | (show (xeql _ _ _ _ _ _).map _=(xeql _ _ _ _ _ _).map _;rw [this])
  | rfl
theorem Ip {P:Program} {op:BinOp} {T:TypeId} {x y:Operand} {a b:List PV} {i j:Nat}:xbin P op T x y (.rop a i) .nilp=xbin P op T x y (.rop b j) .nilp:=by
 have:xeql P T x y (.rop a i) .nilp=xeql P T x y (.rop b j) .nilp:=by
  simp only [xeql]
  split
  ·rfl
  ·rename_i h;exact Kb (by simpa using h)
 cases op <;> first
  | (show (xeql _ _ _ _ _ _).map _=(xeql _ _ _ _ _ _).map _;rw [this])
  | rfl
def dBin (P:Program) (op:BinOp) (T:TypeId) (x y:Operand) (a b:DV) {R:Type} (k:DV->Option R):Option R:=
 match Ax op with
 | true=>dDiv op a b k
 | false=>match op,a,b with
  | .add,.str s,.str t=>req (s.length+t.length<=9223372036854775807) (k (.str (s++t)))
  | op,.ev S o,.nili=>sR P op T x y (.ev S none) (.ev S (some ⟨0,0,none⟩)) .nili o.isNone k
  | op,.oi S t v,.nili=>sR P op T x y .nili (.iface 0 .dead) .nili v.isNone k
  | op,.oq t v,.nilp=>sR P op T x y .nilp (.rop [] 0) .nilp v.isNone k
  | _,_,_=>J4 P op T x y a b k
theorem C2 {P:Program} {op:BinOp} {T:TypeId} {x y:Operand} {a b:PV} {k:IntKind} {n:Int} (hop:Ax op=false) (h:xbin P op T x y a b=some (.int k n)) (hk:k = .u8):0<=n/\n<256:=by
 subst hk
 unfold xbin at h
 split at h
 ·split at h
  ·rename_i k1 n1 k2 n2 _ _
   cases op <;> simp [Ax] at hop <;> simp [ibin] at h <;> (try (obtain ⟨rfl,rfl⟩:=h)) <;> first | exact ey _ | (simp only [aj];exact ey _)
  ·cases op <;> simp [Ax] at hop <;> simp at h
 ·cases op <;> simp [sbin] at h
 ·cases op <;> simp at h
theorem C6 {x:UInt8} {m:Int}:0<=((x.toNat:Int)).tmod m/\((x.toNat:Int)).tmod m<256:=by
 have h1:=x.toNat_lt
 cases m with
 | ofNat m=>
  have h2:=Nat.mod_le x.toNat m
  show 0<=((x.toNat % m:Nat):Int)/\((x.toNat % m:Nat):Int)<256
  omega
 | negSucc m=>
  have h2:=Nat.mod_le x.toNat (m+1)
  show 0<=((x.toNat % (m+1):Nat):Int)/\((x.toNat % (m+1):Nat):Int)<256
  omega
theorem Dy {x:UInt8} {m:Nat}:0<=((x.toNat:Int)).fdiv (2^m)/\((x.toNat:Int)).fdiv (2^m)<256:=by
 have h1:=x.toNat_lt
 have hp:(0:Int)<2^m:=Int.pow_pos (by decide)
 rw [Int.fdiv_eq_ediv_of_nonneg _ (by omega)]
 refine ⟨Int.ediv_nonneg (by omega) (by omega),?_⟩
 have:=Int.ediv_le_self (2^m:Int) (a:=(x.toNat:Int)) (by omega)
 omega
section
variable {E:Env} {d:Option Tmp} {ty:TypeId} {pos:String} {after:Array Edge} {g:Option (Nat×Bool)} {ra:DAl} {rl:DLb} {R:Type} {r:R} {G:GTab}
theorem BQ {p:PV} {v:DV} (hr:∀k n,p = .int k n->k = .u8->0<=n/\n<256) (h:EA p=some v):v.pv=p/\v.ok:=by
 unfold EA at h
 split at h
 ·rename_i k n;simp at h;subst h;exact ⟨ni (hr k n rfl),nj _ _⟩
 ·simp at h;subst h;exact ⟨rfl,trivial⟩
 ·simp at h
theorem y0 {a:DV} {n:Int} (h:lg a=some (.u8,n)) (hn:EC a=true):∃x:UInt8,n=(x.toNat:Int):=by
 unfold lg at h
 split at h
 ·simp at h;obtain ⟨rfl,rfl⟩:=h;simp [EC] at hn
 ·simp at h;subst h;exact ⟨_,rfl⟩
 ·simp at h
theorem Jk (hG:E.G=gtPV G) (hal:alOk ra) {op:BinOp} {T yt:TypeId} {x y:Operand} {a b:DV} {k:DV->DLb->DL->Option R} (hx:dev G ra x=some a) (hy:dev G ra y=some b)
  (h:dBin E.P op T x y a b (fun v=>k v [] [])=some r):OpS E ⟨d,.binOp op T x y yt,ty,pos,after,g⟩ ra rl k r:=by
 have hx':xev E.G (dal ra) x=some a.pv:=hG▸(bj hal hx).1
 have hy':xev E.G (dal ra) y=some b.pv:=hG▸(bj hal hy).1
 unfold dBin at h
 split at h
 ·rename_i hop
  unfold dDiv at h
  split at h
  ·rename_i ka n kb m ha hb
   rw [iA ha] at hx'
   rw [iA hb] at hy'
   split at h
   ·split at h
    ·rename_i e;subst e
     obtain ⟨hc,h⟩:=cR h
     refine .val (AOp.weak (gX hx' hy' (Gq hc)) ?_ .nil) (nj _ _) h
     rw [ni (fun e=>by subst e;exact ey _)];exact .refl _
    ·simp at h
   ·split at h
    ·rename_i e;obtain ⟨e,e2⟩:=e;subst e
     obtain ⟨hc,h⟩:=cR h
     refine .val (AOp.weak (gX hx' hy' (Gp hc)) ?_ .nil) (nj _ _) h
     rw [ni (fun e=>by subst e;obtain ⟨z,rfl⟩:=y0 ha e2;exact C6)];exact .refl _
    ·simp at h
   ·obtain ⟨hc,h⟩:=cR h
    refine .val (AOp.weak (gX hx' hy' (Gn hc)) ?_ .nil) (nj _ _) h
    rw [ni (fun e=>by subst e;exact ey _)];exact .refl _
   ·split at h
    ·rename_i e2
     obtain ⟨hc,h⟩:=cR h
     refine .val (AOp.weak (gX hx' hy' (Gm hc)) ?_ .nil) (nj _ _) h
     rw [ni (fun e=>by subst e;obtain ⟨z,rfl⟩:=y0 ha e2;exact Dy)];exact .refl _
    ·simp at h
   ·simp at h
  ·simp at h
 ·rename_i hop
  split at h
  ·obtain ⟨hc,h⟩:=cR h
   exact .val (x:=.str _) (Eb hx' hy' hc) trivial h
  ·rename_i S o
   obtain ⟨c,hc,hb⟩:=rG (a:=.ev S (o.map SentA.f)) h (fun e=>by cases o <;> simp at e ⊢) (fun e=>by cases o with | none=>simp at e | some a=>exact Is)
   exact .val (x:=.bool c) (gX hx' hy' hb) trivial hc
  ·rename_i S t o
   obtain ⟨c,hc,hb⟩:=rG (a:=optI S (el t) o) h (fun e=>by cases o <;> simp [optI] at e ⊢) (fun e=>by cases o with | none=>simp at e | some a=>exact Ir)
   exact .val (x:=.bool c) (gX hx' hy' hb) trivial hc
  ·rename_i t o
   obtain ⟨c,hc,hb⟩:=rG (a:=optQ (el t) o) h (fun e=>by cases o <;> simp [optQ] at e ⊢) (fun e=>by cases o with | none=>simp at e | some a=>exact Ip)
   exact .val (x:=.bool c) (gX hx' hy' hb) trivial hc
  ·unfold J4 at h
   split at h
   ·rename_i p hp
    split at h
    ·rename_i v hv
     obtain ⟨h1,h2⟩:=BQ (fun k n e hk=>C2 hop (e▸hp) hk) hv
     exact .val (h1▸gX hx' hy' hp) h2 h
    ·simp at h
   ·simp at h
def dUn (op:UnOp) (a:DV) {R:Type} (k:DV->Option R):Option R:=
 match xun op a.pv with
 | some p=>match EA p with
  | some d=>k d
  | none=>none
 | none=>none
theorem KC (hG:E.G=gtPV G) (hal:alOk ra) {op:UnOp} {T:TypeId} {x:Operand} {a:DV} {k:DV->DLb->DL->Option R} (hx:dev G ra x=some a)
  (h:dUn op a (fun v=>k v [] [])=some r):OpS E ⟨d,.unOp op T x,ty,pos,after,g⟩ ra rl k r:=by
 have hx':xev E.G (dal ra) x=some a.pv:=hG▸(bj hal hx).1
 unfold dUn at h
 split at h
 ·rename_i p hp
  split at h
  ·rename_i v hv
   obtain ⟨h1,h2⟩:=BQ (fun k n e hk=>by
    subst e;subst hk
    unfold xun at hp
    split at hp <;> simp at hp
    ·obtain ⟨rfl,rfl⟩:=hp;exact ey _
    ·obtain ⟨rfl,rfl⟩:=hp;simp only [aj];exact ey _) hv
   exact .val (h1▸CU hx' hp) h2 h
  ·simp at h
 ·simp at h
def qV (P:Program) (T:TypeId) (cs:List DV) (o:Nat):Option DV:=
 match P.info? T,dS P T with
 | some i,some true=>if o+i.size<=cs.length/\0<i.size then some (.agg ((cs.drop o).take i.size)) else none
 | some _,some false=>cs[o]?
 | _,_=>none
theorem kK {P:Program} {T:TypeId} {cs:List DV} {o:Nat} {v:DV} (hc:DV.oks cs) (h:qV P T cs o=some v):oE P T (DV.pvs cs) o=some v.pv/\(∀L,kg P T L (.rop (DV.pvs cs) o)=some v.pv)/\v.ok:=by
 unfold qV at h
 split at h
 ·rename_i i h1 h2
  split at h
  ·rename_i hh
   simp at h;subst h
   refine ⟨?_,fun L=>?_,?_⟩
   ·simp only [oE,h1,h2,aB];rw [if_pos hh.1];simp [DV.pv,pq,pr]
   ·simp only [kg,fG,h1,h2,aB];rw [if_pos hh];simp [DV.pv,pq,pr]
   ·exact bS.2 fun x hx=>bS.1 hc x (List.mem_of_mem_drop (List.mem_of_mem_take hx))
  ·simp at h
 ·rename_i i h1 h2
  refine ⟨?_,fun L=>?_,qe hc h⟩
  ·simp only [oE,h1,h2,nW,h,Option.map_some]
  ·simp only [kg,fG,h1,h2,nW,h,Option.map_some]
 ·simp at h
def HN (P:Program) (T:TypeId) (rl:DLb) (p:DV) {R:Type} (k:DV->Option R):Option R:=
 match p with
 | .ptr l off=>match lget rl l with
  | some (.cs cs)=>match qV P T cs off with
   | some v=>k v
   | none=>none
  | some (.ls t ls)=>(ls[off / t.sz]?).bind fun x=>match qV P T (t.cells x) (off % t.sz) with
   | some v=>k v
   | none=>none
  | _=>none
 | .lp l sz i kk=>match lget rl l with
  | some (.ls t ls)=>if sz=t.sz then (ls[i]?).bind fun x=>match qV P T (t.cells x) kk with
   | some v=>k v
   | none=>none else none
  | _=>none
 | .ep t _ _ x kk=>match qV P T (t.cells x) kk with
  | some v=>k v
  | none=>none
 | .gp t l=>match l with
  | [y]=>match qV P T (t.cells y) 0 with
   | some v=>k v
   | none=>none
  | _=>none
 | .oq t x=>x.bind fun y=>match qV P T (t.cells y) 0 with
  | some v=>k v
  | none=>none
 | _=>none
theorem oY {P:Program} {T:TypeId} {L:Lb} {p:PV} {cells:List PV} {off:Nat} (h:fG L p=some (cells,off)):kg P T L p=kg P T [] (.rop cells off):=by
 unfold kg;rw [h];rfl
theorem ud {P:Program} {T:TypeId} {t:ET} {ls:List t.T} {i kk:Nat} {x:t.T} {v:DV} (hx:ls[i]?=some x) (hv:qV P T (t.cells x) kk=some v):kg P T [] (.rop (fl (el t) ls) (i*t.sz+kk))=some v.pv:=by
 obtain ⟨_,h,_⟩:=kK (fS t x) hv
 have h:=h []
 rw [kM] at h
 have hz:=jg t
 unfold kg at h ⊢
 simp only [fG] at h ⊢
 cases hi:P.info? T with
 | none=>rw [hi] at h;simp at h
 | some ie=>
  rw [hi] at h
  cases hr:dS P T with
  | none=>rw [hr] at h;simp at h
  | some b=>
   rw [hr] at h
   cases b with
   | true=>
    simp only at h ⊢
    split at h
    ·rename_i hh
     have:=J1 (e:=el t) hx
     have hl:=(el t).hsz x
     rw [<-hz,if_pos ⟨by omega,hh.2⟩,I8 hx (by omega)];exact h
    ·simp at h
   | false=>
    simp only at h ⊢
    have hl:=(List.getElem?_eq_some_iff.1 h).1
    rw [(el t).hsz] at hl
    rw [<-hz,AD hx hl];exact h
theorem HM (hG:E.G=gtPV G) (hal:alOk ra) (hrl:lbOk rl) {T:TypeId} {p:Operand} {q:DV} {k:DV->DLb->DL->Option R} (hp:dev G ra p=some q)
  (h:HN E.P T rl q (fun v=>k v [] [])=some r):OpS E ⟨d,.load T p,ty,pos,after,g⟩ ra rl k r:=by
 obtain ⟨hp',hq⟩:=bj hal hp
 rw [<-hG] at hp'
 unfold HN at h
 split at h
 ·rename_i l off
  split at h
  ·rename_i cs hl
   split at h
   ·rename_i v hv
    obtain ⟨_,h2,h3⟩:=kK (hrl _ _ hl) hv
    refine .val (kO hp' ?_) h3 h
    rw [oY (cells:=DV.pvs cs) (off:=off) (by simp [fG,DV.pv,an,hl,DC.pv])]
    exact h2 []
   ·simp at h
  ·rename_i t ls hl
   obtain ⟨x,hx,h⟩:=bind_some h
   split at h
   ·rename_i v hv
    obtain ⟨_,_,h3⟩:=kK (fS t x) hv
    refine .val (kO hp' ?_) h3 h
    rw [oY (cells:=fl (el t) ls) (off:=off) (by simp [fG,DV.pv,an,hl,DC.pv])]
    have e:off=off / t.sz*t.sz+off % t.sz:=by rw [Nat.mul_comm];exact (Nat.div_add_mod off t.sz).symm
    rw [e];exact ud hx hv
   ·simp at h
  ·simp at h
 ·rename_i l sz i kk
  split at h
  ·rename_i t ls hl
   split at h
   ·rename_i e;subst e
    obtain ⟨x,hx,h⟩:=bind_some h
    split at h
    ·rename_i v hv
     obtain ⟨_,_,h3⟩:=kK (fS t x) hv
     refine .val (kO hp' ?_) h3 h
     rw [oY (cells:=fl (el t) ls) (off:=i*t.sz+kk) (by simp [fG,DV.pv,an,hl,DC.pv])]
     exact ud hx hv
    ·simp at h
   ·simp at h
  ·simp at h
 ·rename_i t ls i x kk
  split at h
  ·rename_i v hv
   obtain ⟨_,_,h3⟩:=kK (fS t x) hv
   refine .val (kO hp' ?_) h3 h
   rw [oY (cells:=fl (el t) ls) (off:=i*t.sz+kk) (by simp [fG,DV.pv])]
   exact ud hq hv
  ·simp at h
 ·split at h
  ·rename_i t l y
   split at h
   ·rename_i v hv
    obtain ⟨_,h2,h3⟩:=kK (fS t y) hv
    refine .val (kO hp' ?_) h3 h
    have:=h2 (dlb rl)
    rw [kM] at this
    simpa [DV.pv,cj,rO] using this
   ·simp at h
  ·simp at h
 ·rename_i t x
  obtain ⟨y,e,h'⟩:=bind_some h
  subst e
  clear h
  split at h'
  ·rename_i v hv
   obtain ⟨_,h2,h3⟩:=kK (fS t y) hv
   refine .val (kO hp' ?_) h3 h'
   have:=h2 (dlb rl)
   rw [kM] at this
   simpa [DV.pv,optQ] using this
  ·simp at h'
 ·simp at h
end
end Go.SH
namespace Go.SH
variable [SentA]
def gI:DV->List DV
 | .agg cs=>cs
 | x=>[x]
theorem fY (v:DV):DV.pvs (gI v)=cJ v.pv:=by
 cases v with
 | fk fs i=>rcases pL fs i with e | ⟨f,e⟩ <;> simp [gI,DV.pvs,DV.pv,e,cJ]
 | _=>first | rfl | (rename_i x;cases x <;> rfl)
theorem uP {v:DV} (h:v.ok):DV.oks (gI v):=by
 cases v <;> first | exact h | exact ⟨h,trivial⟩
def iL (cs:List DV) (off:Nat) (xs:List DV):List DV:=cs.take off++xs++cs.drop (off+xs.length)
theorem rQ (cs:List DV) (off:Nat) (xs:List DV):DV.pvs (iL cs off xs)=dw (DV.pvs cs) off (DV.pvs xs):=by
 simp [iL,dw,bO,pq,pr,aB]
theorem xU {cs xs:List DV} (h:DV.oks cs) (h':DV.oks xs) (off:Nat):DV.oks (iL cs off xs):=by
 refine bS.2 fun x hx=>?_
 rcases List.mem_append.1 hx with hx | hx
 ·rcases List.mem_append.1 hx with hx | hx
  ·exact bS.1 h x (List.mem_of_mem_take hx)
  ·exact bS.1 h' x hx
 ·exact bS.1 h x (List.mem_of_mem_drop hx)
theorem Ci {cs xs:List DV} {off:Nat} (h:off+xs.length<=cs.length):(iL cs off xs).length=cs.length:=by
 simp [iL];omega
theorem Cj {cs xs:List DV} {off:Nat} (h:off+xs.length<=cs.length) {i:Nat} (hi:i<off\/off+xs.length<=i):(iL cs off xs)[i]?=cs[i]?:=by
 unfold iL
 rcases hi with hi | hi
 ·rw [List.append_assoc,List.getElem?_append_left (by simp;omega),List.getElem?_take_of_lt hi]
 ·rw [List.getElem?_append_right (by simp;omega),List.getElem?_drop]
  congr 1
  simp
  omega
theorem Db {A B C xs:List PV} {k:Nat} (h:k+xs.length<=B.length):dw (A++(B++C)) (A.length+k) xs=A++(dw B k xs++C):=by
 unfold dw
 rw [List.take_append,List.take_of_length_le (by omega),Nat.add_sub_cancel_left,List.take_append_of_le_length (by omega),List.drop_append,List.drop_eq_nil_of_le (by omega),List.nil_append,
  show A.length+k+xs.length-A.length=k+xs.length from by omega,List.drop_append_of_le_length h]
 simp
theorem Cd {α:Type} {e:El α} {l:List α} {i:Nat} {x:α} (h:l[i]?=some x):(fl e (l.take i)).length=i*e.sz:=by
 have hi:=(List.getElem?_eq_some_iff.1 h).1
 rw [bD,List.length_take,Nat.min_eq_left (by omega)]
theorem FI {α:Type} {e:El α} {l:List α} {i k:Nat} {x y:α} {xs:List PV} (h:l[i]?=some x) (hk:k+xs.length<=e.sz) (hy:CLe (dw (e.pv x) k xs) (e.pv y)):CLe (dw (fl e l) (i*e.sz+k) xs) (fl e (l.set i y)):=by
 have hi:=(List.getElem?_eq_some_iff.1 h).1
 have hs:(l.set i y)[i]?=some y:=by simp [hi]
 rw [xM h,xM hs,show i*e.sz=(fl e (l.take i)).length from (Cd h).symm,Db (by rw [e.hsz];exact hk)]
 have e1:(l.set i y).take i=l.take i:=by simp [List.take_set_of_le (Nat.le_refl i)]
 have e2:(l.set i y).drop (i+1)=l.drop (i+1):=by simp [List.drop_set_of_lt]
 rw [e1,e2]
 exact (CLe.refl _).append (hy.append (.refl _))
def rS (l off n:Nat):DL:=(List.range n).map fun j=>(l,some (off+j))
theorem FM {l off n i:Nat}:(l,some i)∈rS l off n<->off<=i/\i<off+n:=by
 simp only [rS,List.mem_map,List.mem_range,Prod.mk.injEq,Option.some.injEq,true_and]
 constructor
 ·rintro ⟨j,hj,rfl⟩;omega
 ·rintro ⟨h1,h2⟩;exact ⟨i-off,by omega,by omega⟩
def DN (P:Program) (T:TypeId) (rl:DLb) (p v:DV) {R:Type} (k:DV->DLb->DL->Option R):Option R:=
 match P.info? T with
 | some i=>if (gI v).length=i.size/\(DV.pvs (gI v)).all PV.one=true/\0<i.size then
   match p with
   | .ptr l off=>match lget rl l with
    | some (.cs cs)=>if off+i.size<=cs.length then k .dead [(l,.cs (iL cs off (gI v)))] (rS l off i.size) else none
    | some (.ls t ls)=>if off % t.sz+i.size<=t.sz then (ls[off / t.sz]?).bind fun x=>match t.one (iL (t.cells x) (off % t.sz) (gI v)) with
      | some y=>k .dead [(l,.ls t (ls.set (off / t.sz) y))] [(l,none)]
      | none=>none else none
    | _=>none
   | .lp l sz j kk=>match lget rl l with
    | some (.ls t ls)=>if sz=t.sz/\kk+i.size<=t.sz then (ls[j]?).bind fun x=>match t.one (iL (t.cells x) kk (gI v)) with
      | some y=>k .dead [(l,.ls t (ls.set j y))] [(l,none)]
      | none=>none else none
    | _=>none
   | _=>none else none
 | none=>none
section
variable {E:Env} {d:Option Tmp} {ty:TypeId} {pos:String} {after:Array Edge} {g:Option (Nat×Bool)} {ra:DAl} {rl:DLb} {R:Type} {r:R} {G:GTab} {k:DV->DLb->DL->Option R}
theorem Bw (hal:alOk ra) {T:TypeId} {p v:Operand} {b:DV} {ie:TypeInfo} {l j kk:Nat} {t:ET} {ls:List t.T} {x y:t.T} (hp:xev E.G (dal ra) p=some (.ptr l (j*t.sz+kk))) (hv:xev E.G (dal ra) v=some b.pv)
  (hl:lget rl l=some (.ls t ls)) (hi:E.P.info? T=some ie) (h1:(gI b).length=ie.size) (h2:(DV.pvs (gI b)).all PV.one=true) (h3:0<ie.size) (h4:kk+ie.size<=t.sz) (hx:ls[j]?=some x)
  (hy:t.one (iL (t.cells x) kk (gI b))=some y):AOp E ⟨none,.store T p v,ty,pos,after,g⟩ (dal ra) (dlb rl) .dead (dlb [(l,.ls t (ls.set j y))]):=by
 have e1:(cJ b.pv).length=ie.size:=by rw [<-fY,aB];exact h1
 have:=J1 (e:=el t) hx
 rw [jg] at this
 refine AOp.weak (uZ hp hv (cells:=fl (el t) ls) (by simp [an,hl,DC.pv]) hi e1 (by rw [<-fY];exact h2) (by omega) h3) (.refl _) (.one ?_)
 have h5:=Di hy
 rw [rQ,kM,fY] at h5
 rw [<-jg]
 exact FI hx (by rw [jg,e1];exact h4) h5
theorem FP (hG:E.G=gtPV G) (hal:alOk ra) (hrl:lbOk rl) {T:TypeId} {p v:Operand} {a b:DV} (hp:dev G ra p=some a) (hv:dev G ra v=some b)
  (h:DN E.P T rl a b k=some r):OpS E ⟨none,.store T p v,ty,pos,after,g⟩ ra rl k r:=by
 obtain ⟨hp',hpok⟩:=bj hal hp
 obtain ⟨hv',hb⟩:=bj hal hv
 rw [<-hG] at hp' hv'
 clear hpok
 unfold DN at h
 split at h
 ·rename_i ie hi
  split at h
  ·rename_i hc;obtain ⟨h1,h2,h3⟩:=hc
   split at h
   ·rename_i l off
    split at h
    ·rename_i cs hl
     split at h
     ·rename_i hfit
      have e1:(cJ b.pv).length=ie.size:=by rw [<-fY,aB];exact h1
      have:=uZ (ty:=ty) (pos:=pos) (after:=after) (g:=g) hp' hv' (cells:=DV.pvs cs) (rl:=dlb rl) (by simp [an,hl,DC.pv]) hi e1 (by rw [<-fY];exact h2) (by rw [aB];exact hfit) h3
      refine ⟨.dead,_,_,(by rw [<-fY,<-rQ] at this;exact this),trivial,?_,?_,h⟩
      ·intro p hp;simp at hp;subst hp;exact xU (hrl _ _ hl) (uP hb) off
      ·intro p hp;simp at hp;subst hp
       refine .inr ⟨cs,_,hl,rfl,Ci (by omega),fun i hi=>Cj (by omega) ?_⟩
       rw [FM] at hi;omega
     ·simp at h
    ·rename_i t ls hl
     split at h
     ·rename_i h4
      obtain ⟨x,hx,h⟩:=bind_some h
      split at h
      ·rename_i y hy
       have e:off=off / t.sz*t.sz+off % t.sz:=by rw [Nat.mul_comm];exact (Nat.div_add_mod off t.sz).symm
       have hp2:xev E.G (dal ra) p=some (.ptr l (off / t.sz*t.sz+off % t.sz)):=by rw [hp'];simp only [DV.pv];rw [<-e]
       exact .new (x:=.dead) (Bw hal hp2 hv' hl hi h1 h2 h3 h4 hx hy) trivial trivial h
      ·simp at h
     ·simp at h
    ·simp at h
   ·rename_i l sz j kk
    split at h
    ·rename_i t ls hl
     split at h
     ·rename_i h4;obtain ⟨e,h4⟩:=h4;subst e
      obtain ⟨x,hx,h⟩:=bind_some h
      split at h
      ·rename_i y hy
       exact .new (x:=.dead) (Bw hal hp' hv' hl hi h1 h2 h3 h4 hx hy) trivial trivial h
      ·simp at h
     ·simp at h
    ·simp at h
   ·simp at h
  ·simp at h
 ·simp at h
def dBox (nl:Nat) (v:DV) (k:DV->DLb->DL->Option R):Option R:=
 if (DV.pvs (gI v)).all PV.one=true then k (.ptr nl 0) [(nl,.cs (gI v))] [(nl,none)] else none
theorem Jj (hG:E.G=gtPV G) (hal:alOk ra) {nl:Nat} (hn:lget rl nl=none) {T:TypeId} {x:Operand} {v:DV} (hx:dev G ra x=some v) (h:dBox nl v k=some r):OpS E ⟨d,.box T x,ty,pos,after,g⟩ ra rl k r:=by
 obtain ⟨hx',hv⟩:=bj hal hx
 rw [<-hG] at hx'
 unfold dBox at h
 split at h
 ·rename_i h1
  have:=Fi (T:=T) (d:=d) (ty:=ty) (pos:=pos) (after:=after) (g:=g) (rl:=dlb rl) nl hx' (by rw [<-fY];exact h1) (by simp [an,hn])
  rw [<-fY] at this
  exact .new (x:=.ptr nl 0) (c:=.cs (gI v)) this trivial (uP hv) h
 ·simp at h
def dz (P:Program) (T:TypeId):Option (List DV):=match g7 P T with
 | some z=>xe z
 | none=>none
theorem ER {P:Program} {T:TypeId} {z:List DV} (h:dz P T=some z):g7 P T=some (DV.pvs z)/\DV.oks z:=by
 unfold dz at h
 split at h
 ·rename_i c hc;obtain ⟨h1,h2⟩:=nh c h;exact ⟨by rw [hc,h1],h2⟩
 ·simp at h
def DW (P:Program) (T:TypeId) (nl:Nat) (k:DV->DLb->DL->Option R):Option R:=match dz P T with
 | some z=>k (.ptr nl 0) [(nl,.cs z)] [(nl,none)]
 | none=>none
theorem FX {nl:Nat} (hn:lget rl nl=none) {T:TypeId} (h:DW E.P T nl k=some r):OpS E ⟨d,.alloc T,ty,pos,after,g⟩ ra rl k r:=by
 unfold DW at h
 split at h
 ·rename_i z hz
  obtain ⟨h1,h2⟩:=ER hz
  exact .new (x:=.ptr nl 0) (c:=.cs z) (z8 nl h1 (by simp [an,hn])) trivial h2 h
 ·simp at h
def xX (place:Nat->Option (Nat×Nat)) (cs:List DV):List (Nat×DV)->Option (List DV)
 | []=>some cs
 | (i,v)::rest=>match place i with
  | none=>none
  | some (off,size)=>if (gI v).length=size/\off+size<=cs.length/\(DV.pvs (gI v)).all PV.one=true then xX place (iL cs off (gI v)) rest else none
def ppv (ps:List (Nat×DV)):List (Nat×PV):=ps.map fun p=>(p.1,p.2.pv)
theorem tI {place:Nat->Option (Nat×Nat)}:∀{ps:List (Nat×DV)} {cs out:List DV},xX place cs ps=some out->DV.oks cs->(∀p∈ps,p.2.ok)->oG place (DV.pvs cs) (ppv ps)=some (DV.pvs out)/\DV.oks out
 | [],cs,out,h,h1,h2=>by simp [xX] at h;subst h;exact ⟨rfl,h1⟩
 | (i,v)::rest,cs,out,h,h1,h2=>by
  simp only [xX] at h
  split at h
  ·simp at h
  ·rename_i off size hp
   split at h
   ·rename_i hc
    obtain ⟨e1,e2⟩:=tI h (xU h1 (uP (h2 (i,v) (by simp))) off) (fun p hp=>h2 p (List.mem_cons_of_mem _ hp))
    refine ⟨?_,e2⟩
    simp only [ppv,List.map_cons,oG,hp]
    rw [if_pos (by rw [<-fY,aB,aB];exact hc),<-fY,<-rQ]
    exact e1
   ·simp at h
def uO (G:GTab) (al:DAl):List (Nat×Operand)->Option (List (Nat×DV))
 | []=>some []
 | (i,o)::r=>match dev G al o with
  | some x=>match uO G al r with
   | some xs=>some ((i,x)::xs)
   | none=>none
  | none=>none
theorem uN (hal:alOk ra):∀{os:List (Nat×Operand)} {ps:List (Nat×DV)},uO G ra os=some ps->mo (gtPV G) (dal ra) os=some (ppv ps)/\∀p∈ps,p.2.ok
 | [],ps,h=>by simp [uO] at h;subst h;exact ⟨rfl,by simp⟩
 | (i,o)::os,ps,h=>by
  simp only [uO] at h
  split at h
  ·rename_i x hx
   split at h
   ·rename_i xs hxs
    simp at h;subst h
    obtain ⟨h1,h2⟩:=bj hal hx
    obtain ⟨h3,h4⟩:=uN hal hxs
    refine ⟨by simp [mo,h1,h3,ppv],fun p hp=>?_⟩
    rcases List.mem_cons.1 hp with rfl | hp
    ·exact h2
    ·exact h4 p hp
   ·simp at h
  ·simp at h
def HH (P:Program) (T:TypeId) (ps:List (Nat×DV)):Option (List DV):=
 match dz P T with
 | some z=>match P.underlying T with
  | some (.struct fields)=>match p6 P fields.toList with
   | some places=>xX (fun (i:Nat)=>places[i]?) z ps
   | none=>none
  | some (.array _ e)=>match P.info? e with
   | some ie=>xX (fun i=>some (i*ie.size,ie.size)) z ps
   | none=>none
  | _=>none
 | none=>none
def DT (P:Program) (G:GTab) (al:DAl) (T:TypeId) (parts:List (Nat×Operand)) (k:DV->DLb->DL->Option R):Option R:=
 match uO G al parts with
 | some ps=>match HH P T ps with
  | some cs=>k (.agg cs) [] []
  | none=>none
 | none=>none
theorem FW (hG:E.G=gtPV G) (hal:alOk ra) {T:TypeId} {parts:Array (Nat×Operand)} (h:DT E.P G ra T parts.toList k=some r):OpS E ⟨d,.build T parts,ty,pos,after,g⟩ ra rl k r:=by
 unfold DT at h
 split at h
 ·rename_i ps hps
  obtain ⟨h1,h2⟩:=uN hal hps
  rw [<-hG] at h1
  split at h
  ·rename_i cs hcs
   have key:wH E.P T (ppv ps)=some (DV.pvs cs)/\DV.oks cs:=by
    unfold HH at hcs
    split at hcs
    ·rename_i z hz
     obtain ⟨z1,z2⟩:=ER hz
     unfold wH
     split at hcs
     ·rename_i fields hu
      split at hcs
      ·rename_i places hpl
       obtain ⟨f1,f2⟩:=tI hcs z2 h2
       refine ⟨?_,f2⟩
       simp only [z1,hu,hpl];exact f1
      ·simp at hcs
     ·rename_i e hu
      split at hcs
      ·rename_i ie hie
       obtain ⟨f1,f2⟩:=tI hcs z2 h2
       refine ⟨?_,f2⟩
       simp only [z1,hu,hie];exact f1
      ·simp at hcs
     ·simp at hcs
    ·simp at hcs
   exact .val (x:=.agg cs) (z7 h1 key.1) key.2 h
  ·simp at h
 ·simp at h
def EQ (z:List DV) (n:Nat):List DV:=(List.range n).map fun i=>z.getD (i % z.length) .dead
theorem Hx (z:List DV) (n:Nat):DV.pvs (EQ z n)=zrow (DV.pvs z) n:=by
 simp only [EQ,zrow,nX,List.map_map,List.length_map]
 refine List.map_congr_left fun i _=>?_
 simp only [Function.comp,List.getD_eq_getElem?_getD,List.getElem?_map]
 cases z[i % z.length]? <;> rfl
theorem Hy {z:List DV} (h:DV.oks z) (n:Nat):DV.oks (EQ z n):=by
 refine bS.2 fun x hx=>?_
 obtain ⟨i,_,rfl⟩:=List.mem_map.1 hx
 rw [List.getD_eq_getElem?_getD]
 cases hz:z[i % z.length]? with
 | none=>trivial
 | some y=>exact qe h hz
def pR (P:Program) (G:GTab) (al:DAl) (nl:Nat) (T:TypeId) (len:Nat) (parts:List (Nat×Operand)) (k:DV->DLb->DL->Option R):Option R:=
 match uO G al parts with
 | some ps=>match P.underlying T with
  | some (.slice e)=>match P.info? e with
   | some ie=>match dz P e with
    | some z=>if len*ie.size<=2^24/\0<ie.size/\0<z.length then
      match xX (fun i=>some (i*ie.size,ie.size)) (EQ z (len*ie.size)) ps with
      | some cs=>k (.rw nl ie.size 0 len (some len) false) [(nl,.cs cs)] [(nl,none)]
      | none=>none else none
    | none=>none
   | none=>none
  | _=>none
 | none=>none
theorem yc (hG:E.G=gtPV G) (hal:alOk ra) {nl:Nat} (hn:lget rl nl=none) {T:TypeId} {len:Nat} {parts:Array (Nat×Operand)} (h:pR E.P G ra nl T len parts.toList k=some r) :
  OpS E ⟨d,.buildSlice T len parts,ty,pos,after,g⟩ ra rl k r:=by
 unfold pR at h
 split at h
 ·rename_i ps hps
  obtain ⟨h1,h2⟩:=uN hal hps
  rw [<-hG] at h1
  split at h
  ·rename_i e hu
   split at h
   ·rename_i ie hie
    split at h
    ·rename_i z hz
     obtain ⟨z1,z2⟩:=ER hz
     split at h
     ·rename_i hc
      split at h
      ·rename_i cs hcs
       obtain ⟨f1,f2⟩:=tI hcs (Hy z2 _) h2
       rw [Hx] at f1
       have hx:kj E.P T len (ppv ps)=some (DV.pvs cs,ie.size):=by
        unfold kj
        simp only [hu,hie,z1,aB]
        rw [if_pos hc,f1];rfl
       exact .new (x:=.rw nl ie.size 0 len (some len) false) (c:=.cs cs) (by have:=p5 (d:=d) (ty:=ty) (pos:=pos) (after:=after) (g:=g) (rl:=dlb rl) nl h1 hx (by simp [an,hn]);simpa [DV.pv,DC.pv] using this) trivial f2 h
      ·simp at h
     ·simp at h
    ·simp at h
   ·simp at h
  ·simp at h
 ·simp at h
end
end Go.SH
namespace Go.SH
variable [SentA]
section
variable {E:Env} {d:Option Tmp} {ty:TypeId} {pos:String} {after:Array Edge} {g:Option (Nat×Bool)} {ra:DAl} {rl:DLb} {R:Type} {r:R} {G:GTab} {k:DV->DLb->DL->Option R}
def HJ (o:Nat):DV->Option DV
 | .ptr l off=>some (.ptr l (off+o))
 | .lp l sz i kk=>some (.lp l sz i (kk+o))
 | .ep t ls i x kk=>some (.ep t ls i x (kk+o))
 | _=>none
theorem HI {o:Nat} {p q:DV} (h:HJ o p=some q) (hp:p.ok):bX o p.pv=some q.pv/\q.ok:=by
 unfold HJ at h
 split at h <;> simp at h <;> subst h
 ·exact ⟨rfl,trivial⟩
 ·exact ⟨by simp [bX,DV.pv,Nat.add_assoc],trivial⟩
 ·exact ⟨by simp [bX,DV.pv,Nat.add_assoc],hp⟩
def rW (P:Program) (S:TypeId) (f:Nat) (p:DV) (k:DV->DLb->DL->Option R):Option R:=match xoff P S f with
 | some (o,_,_)=>match p with
  | .oq t x=>x.bind fun y=>k (.ep t [y] 0 y o) [] []
  | .gp t l=>match l with
   | [y]=>k (.ep t [y] 0 y o) [] []
   | _=>none
  | p=>match HJ o p with
   | some q=>k q [] []
   | none=>none
 | none=>none
theorem yQ (hG:E.G=gtPV G) (hal:alOk ra) {S:TypeId} {x:Operand} {f:Nat} {p:DV} (hx:dev G ra x=some p) (h:rW E.P S f p k=some r):OpS E ⟨d,.fieldAddr S x f,ty,pos,after,g⟩ ra rl k r:=by
 obtain ⟨hx',hp⟩:=bj hal hx
 rw [<-hG] at hx'
 unfold rW at h
 split at h
 ·rename_i o T sz ho
  split at h
  ·rename_i t x
   obtain ⟨y,e,h'⟩:=bind_some h
   subst e
   exact .val (x:=.ep t [y] 0 y o) (ke hx' ho (by simp [bX,DV.pv,optQ,cj,rO])) rfl h'
  ·split at h
   ·rename_i t l y
    exact .val (x:=.ep t [y] 0 y o) (ke hx' ho (by simp [bX,DV.pv])) rfl h
   ·simp at h
  ·split at h
   ·rename_i q hq
    obtain ⟨h1,h2⟩:=HI hq hp
    exact .val (ke hx' ho h1) h2 h
   ·simp at h
 ·simp at h
def AK (P:Program) (T:TypeId) (cs:List DV) (o:Nat):Option DV:=
 match P.info? T,dS P T with
 | some i,some true=>if o+i.size<=cs.length then some (.agg ((cs.drop o).take i.size)) else none
 | some _,some false=>cs[o]?
 | _,_=>none
theorem zH {P:Program} {T:TypeId} {cs:List DV} {o:Nat} {v:DV} (hc:DV.oks cs) (h:AK P T cs o=some v):oE P T (DV.pvs cs) o=some v.pv/\v.ok:=by
 unfold AK at h
 split at h
 ·rename_i i h1 h2
  split at h
  ·rename_i hh
   simp at h;subst h
   refine ⟨?_,?_⟩
   ·simp only [oE,h1,h2,aB];rw [if_pos hh];simp [DV.pv,pq,pr]
   ·exact bS.2 fun x hx=>bS.1 hc x (List.mem_of_mem_drop (List.mem_of_mem_take hx))
  ·simp at h
 ·rename_i i h1 h2
  exact ⟨by simp only [oE,h1,h2,nW,h,Option.map_some],qe hc h⟩
 ·simp at h
def DQ (P:Program) (S:TypeId) (f:Nat) (p:DV) (k:DV->DLb->DL->Option R):Option R:=match p with
 | .agg cs=>match xoff P S f with
  | some (o,T,_)=>match AK P T cs o with
   | some q=>k q [] []
   | none=>none
  | none=>none
 | _=>none
theorem FT (hG:E.G=gtPV G) (hal:alOk ra) {S:TypeId} {x:Operand} {f:Nat} {p:DV} (hx:dev G ra x=some p) (h:DQ E.P S f p k=some r):OpS E ⟨d,.field S x f,ty,pos,after,g⟩ ra rl k r:=by
 obtain ⟨hx',hp⟩:=bj hal hx
 rw [<-hG] at hx'
 unfold DQ at h
 split at h
 ·rename_i cs
  split at h
  ·rename_i o T sz ho
   split at h
   ·rename_i q hq
    obtain ⟨h1,h2⟩:=zH hp hq
    exact .val (z6 hx' ho h1) h2 h
   ·simp at h
  ·simp at h
 ·simp at h
def ya (p:DV) (i:Nat) (k:DV->DLb->DL->Option R):Option R:=match p with
 | .tup vs=>match vs[i]? with
  | some q=>k q [] []
  | none=>none
 | _=>none
theorem Cu (hG:E.G=gtPV G) (hal:alOk ra) {x:Operand} {i:Nat} {p:DV} (hx:dev G ra x=some p) (h:ya p i k=some r):OpS E ⟨d,.extract x i,ty,pos,after,g⟩ ra rl k r:=by
 obtain ⟨hx',hp⟩:=bj hal hx
 rw [<-hG] at hx'
 unfold ya at h
 split at h
 ·rename_i vs
  split at h
  ·rename_i q hq
   exact .val (vK hx' (by rw [nW,hq];rfl)) (qe hp hq) h
  ·simp at h
 ·simp at h
def uR (G:GTab) (al:DAl) (f:FuncId) (caps:List Operand) (k:DV->DLb->DL->Option R):Option R:=match devs G al caps with
 | some xs=>k (.fn f xs) [] []
 | none=>none
theorem AP (hG:E.G=gtPV G) (hal:alOk ra) {f:FuncId} {caps:Array Operand} (h:uR G ra f caps.toList k=some r):OpS E ⟨d,.makeFunc (.func f) #[] caps,ty,pos,after,g⟩ ra rl k r:=by
 unfold uR at h
 split at h
 ·rename_i xs hxs
  obtain ⟨h1,h2⟩:=qo hal hxs
  rw [<-hG] at h1
  exact .val (x:=.fn f xs) (tY h1) h2 h
 ·simp at h
def G2 (P:Program) (T:TypeId):Bool:=match P.underlying T with | some (.interface _)=>false | some _=>true | none=>false
def rU (P:Program) (T:TypeId) (p:DV) (k:DV->DLb->DL->Option R):Option R:=if G2 P T=true then k (.iface T p) [] [] else none
theorem yO (hG:E.G=gtPV G) (hal:alOk ra) {T:TypeId} {x:Operand} {p:DV} (hx:dev G ra x=some p) (h:rU E.P T p k=some r):OpS E ⟨d,.makeInterface T x,ty,pos,after,g⟩ ra rl k r:=by
 obtain ⟨hx',hp⟩:=bj hal hx
 rw [<-hG] at hx'
 unfold rU at h
 split at h
 ·rename_i hT
  exact .val (x:=.iface T p) (mn hx' hT) hp h
 ·simp at h
def uQ (p:DV) (k:DV->DLb->DL->Option R):Option R:=match p with
 | .oq t x=>x.bind fun y=>k (.ep t [y] 0 y 0) [] []
 | p=>if xnil p.pv=true then k p [] [] else none
theorem AN (hG:E.G=gtPV G) (hal:alOk ra) {x:Operand} {p:DV} (hx:dev G ra x=some p) (h:uQ p k=some r):OpS E ⟨d,.nilCheck x,ty,pos,after,g⟩ ra rl k r:=by
 obtain ⟨hx',hp⟩:=bj hal hx
 rw [<-hG] at hx'
 unfold uQ at h
 split at h
 ·rename_i t x
  obtain ⟨y,e,h'⟩:=bind_some h
  subst e
  refine .val (x:=.ep t [y] 0 y 0) ?_ rfl h'
  have:=oD (d:=d) (ty:=ty) (pos:=pos) (after:=after) (g:=g) (rl:=dlb rl) hx' rfl
  simpa [DV.pv,optQ,cj,rO] using this
 ·split at h
  ·rename_i hT
   exact .val (oD hx' hT) hp h
  ·simp at h
def JY (P:Program) (t:TypeId):Option Nat:=match P.underlying t with
 | some (.array n _)=>some n
 | some (.pointer u)=>match P.underlying u with
  | some (.array n _)=>some n
  | _=>none
 | _=>none
def dLen (P:Program) (t:TypeId) (p:Option DV) (k:DV->DLb->DL->Option R):Option R:=match JY P t with
 | some n=>k (.int .i64 (n:Nat)) [] []
 | none=>match p with
  | some p=>match xlen p.pv with
   | some n=>if EG P t p.pv=true then k (.int .i64 (n:Nat)) [] [] else none
   | none=>none
  | none=>none
theorem Ji (hG:E.G=gtPV G) (hal:alOk ra) {t:TypeId} {x:Operand} {p:Option DV} (hx:∀q,p=some q->dev G ra x=some q) (h:dLen E.P t p k=some r):OpS E ⟨d,.call ⟨.builtin .len,#[x],#[t]⟩,ty,pos,after,g⟩ ra rl k r:=by
 unfold dLen at h
 split at h
 ·rename_i n hn
  unfold JY at hn
  split at hn
  ·rename_i n' e hu;simp at hn;subst hn;exact .val (x:=.int .i64 _) (tZ hu) trivial h
  ·rename_i u hu
   split at hn
   ·rename_i n' e hu2;simp at hn;subst hn;exact .val (x:=.int .i64 _) (oT hu hu2) trivial h
   ·simp at hn
  ·simp at hn
 ·split at h
  ·rename_i q
   obtain ⟨hx',hp⟩:=bj hal (hx q rfl)
   rw [<-hG] at hx'
   split at h
   ·rename_i n hn
    split at h
    ·rename_i ht;exact .val (x:=.int .i64 _) (Fh hx' hn ht) trivial h
    ·simp at h
   ·simp at h
  ·simp at h
def wz (mx:Bool) (G:GTab) (al:DAl) (xs:List Operand) (k:DV->DLb->DL->Option R):Option R:=match devs G al xs with
 | some (d::ds)=>match lg d with
  | some (kd,m)=>if kd = .u8 then none else match oF mx kd m (DV.pvs ds) with
   | some q=>k (.int kd q) [] []
   | none=>none
  | none=>none
 | _=>none
theorem xY (hG:E.G=gtPV G) (hal:alOk ra) {mx:Bool} {xs:Array Operand} {ts:Array TypeId} (h:wz mx G ra xs.toList k=some r) :
  OpS E ⟨d,.call ⟨.builtin (if mx then .max else .min),xs,ts⟩,ty,pos,after,g⟩ ra rl k r:=by
 unfold wz at h
 split at h
 ·rename_i d ds hds
  obtain ⟨h1,h2⟩:=qo hal hds
  rw [<-hG] at h1
  split at h
  ·rename_i kd m hd
   split at h
   ·simp at h
   ·split at h
    ·rename_i q hq
     simp only [DV.pvs,iA hd] at h1
     cases mx
     ·exact .val (x:=.int kd q) (Ff h1 hq) trivial h
     ·exact .val (x:=.int kd q) (Fg h1 hq) trivial h
    ·simp at h
  ·simp at h
 ·simp at h
def HL (G:GTab) (al:DAl) (c x y:Operand) (k:DV->DLb->DL->Option R):Option R:=match dev G al c with
 | some (.bool b)=>match b with
  | true=>match dev G al x with
   | some v=>k v [] []
   | none=>none
  | false=>match dev G al y with
   | some v=>k v [] []
   | none=>none
 | _=>none
theorem HK (hG:E.G=gtPV G) (hal:alOk ra) {c x y:Operand} (h:HL G ra c x y k=some r):OpS E ⟨d,.pick c x y,ty,pos,after,g⟩ ra rl k r:=by
 unfold HL at h
 split at h
 ·rename_i b hb
  have hc:=(bj hal hb).1
  rw [<-hG] at hc
  split at h
  ·split at h
   ·rename_i v hv
    obtain ⟨hv',h2⟩:=bj hal hv
    rw [<-hG] at hv'
    refine .val (yr hc ?_) h2 h
    simp only [Bn,DV.pv,hv']
    split <;> simp_all
   ·simp at h
  ·split at h
   ·rename_i v hv
    obtain ⟨hv',h2⟩:=bj hal hv
    rw [<-hG] at hv'
    refine .val (yr hc ?_) h2 h
    simp only [Bn,DV.pv,hv']
    split <;> simp_all
   ·simp at h
 ·simp at h
def selI (i:Int):Nat->Nat->(Nat->Option R)->Option R
 | 0,_,_=>none
 | m+1,j,f=>cond (i==(j:Nat)) (f j) (selI i m (j+1) f)
theorem zb {i:Int}:∀{m j:Nat} {f:Nat->Option R},selI i m j f=some r->∃n,i=(n:Nat)/\j<=n/\n<j+m/\f n=some r
 | 0,_,_,h=>by simp [selI] at h
 | m+1,j,f,h=>by
  simp only [selI] at h
  cases hc:(i==(j:Nat)) with
  | true=>rw [hc] at h;exact ⟨j,by simpa using hc,Nat.le_refl _,by omega,h⟩
  | false=>
   rw [hc] at h
   obtain ⟨n,h1,h2,h3,h4⟩:=zb h
   exact ⟨n,h1,by omega,by omega,h4⟩
def idxI (sel:Bool) (i:Int) (n:Nat) (f:Nat->Option R):Option R:=match sel with
 | true=>selI i n 0 f
 | false=>if 0<=i/\i<n then f i.toNat else none
theorem ny {sel:Bool} {i:Int} {n:Nat} {f:Nat->Option R} (h:idxI sel i n f=some r):∃j:Nat,i=j/\j<n/\f j=some r:=by
 cases sel with
 | true=>obtain ⟨j,h1,_,h3,h4⟩:=zb h;exact ⟨j,h1,by omega,h4⟩
 | false=>
  simp only [idxI] at h
  split at h
  ·exact ⟨i.toNat,by omega,by omega,h⟩
  ·simp at h
def rV (P:Program) (sel:Bool) (T:TypeId) (rl:DLb) (p:DV) (i:Int) (k:DV->DLb->DL->Option R):Option R:=match P.underlying T with
 | some (.slice e)=>match P.info? e with
  | some ie=>match p with
   | .sl t ls=>if ie.size=t.sz then (getI ls i).bind fun x=>k (.ep t ls i.toNat x 0) [] [] else none
   | .rw l sz off n co w=>match lget rl l with
    | some (.ls t ls)=>if ie.size=sz then req (0<=i/\i<n) (k (.lp l sz (i.toNat+off) 0) [] []) else none
    | some (.cs cs)=>if ie.size=sz then idxI sel i n fun j=>k (.ptr l (off*sz+j*sz)) [] [] else none
    | _=>none
   | _=>none
  | none=>none
 | some (.array n e)=>match P.info? e with
  | some ie=>match p with
   | .gp t ls=>if ls.length=n/\ie.size=t.sz then (getI ls i).bind fun x=>k (.ep t ls i.toNat x 0) [] [] else none
   | .ptr l off=>match lget rl l with
    | some (.ls t ls)=>if ie.size=t.sz/\off=0 then req (0<=i/\i<n) (k (.lp l t.sz i.toNat 0) [] []) else none
    | _=>idxI sel i n fun j=>k (.ptr l (off+j*ie.size)) [] []
   | .lp l sz i0 kk=>idxI sel i n fun j=>k (.lp l sz i0 (kk+j*ie.size)) [] []
   | .ep t ls i0 x kk=>idxI sel i n fun j=>k (.ep t ls i0 x (kk+j*ie.size)) [] []
   | _=>none
  | none=>none
 | _=>none
theorem yP (hG:E.G=gtPV G) (hal:alOk ra) {sel:Bool} {T:TypeId} {x ix:Operand} {p q:DV} {ki:IntKind} {i:Int} (hx:dev G ra x=some p) (hq:dev G ra ix=some q) (hi:lg q=some (ki,i))
  (h:rV E.P sel T rl p i k=some r):OpS E ⟨d,.indexAddr T x ix,ty,pos,after,g⟩ ra rl k r:=by
 obtain ⟨hx',hp⟩:=bj hal hx
 have hi':=(bj hal hq).1
 rw [iA hi] at hi'
 rw [<-hG] at hx' hi'
 unfold rV at h
 split at h
 ·rename_i e hu
  split at h
  ·rename_i ie hie
   split at h
   ·rename_i t ls
    split at h
    ·rename_i hs
     obtain ⟨y,hy,h⟩:=bind_some h
     obtain ⟨h0,h1,h2⟩:=ql hy
     refine .val (x:=.ep t ls i.toNat y 0) (iF (n:=ls.length) hx' hi' hu hie rfl h0 (by omega) ?_) h2 h
     simp [jN,DV.pv,hs]
    ·simp at h
   ·rename_i l sz off n co w
    split at h
    ·rename_i t ls hl
     split at h
     ·rename_i hs
      obtain ⟨⟨h0,h1⟩,h⟩:=cR h
      refine .val (x:=.lp l sz (i.toNat+off) 0) (iF (n:=n) hx' hi' hu hie rfl h0 h1 ?_) trivial h
      simp [jN,DV.pv,hs,Nat.add_mul];omega
     ·simp at h
    ·rename_i cs hl
     split at h
     ·rename_i hs
      obtain ⟨j,rfl,hj,h⟩:=ny h
      refine .val (x:=.ptr l (off*sz+j*sz)) (iF (n:=n) hx' hi' hu hie rfl (by omega) (by omega) ?_) trivial h
      simp [jN,DV.pv,hs]
     ·simp at h
    ·simp at h
   ·simp at h
  ·simp at h
 ·rename_i n e hu
  split at h
  ·rename_i ie hie
   split at h
   ·rename_i t ls
    split at h
    ·rename_i hs;obtain ⟨hn,hs⟩:=hs
     obtain ⟨y,hy,h⟩:=bind_some h
     obtain ⟨h0,h1,h2⟩:=ql hy
     refine .val (x:=.ep t ls i.toNat y 0) (fB hx' hi' hu hie h0 (by omega) ?_) h2 h
     simp [bX,DV.pv,hs]
    ·simp at h
   ·rename_i l off
    split at h
    ·rename_i t ls hl
     split at h
     ·rename_i hs;obtain ⟨hs,rfl⟩:=hs
      obtain ⟨⟨h0,h1⟩,h⟩:=cR h
      refine .val (x:=.lp l t.sz i.toNat 0) (fB hx' hi' hu hie h0 h1 ?_) trivial h
      simp [bX,DV.pv,hs]
     ·simp at h
    ·obtain ⟨j,rfl,hj,h⟩:=ny h
     refine .val (x:=.ptr l (off+j*ie.size)) (fB hx' hi' hu hie (by omega) (by omega) ?_) trivial h
     simp [bX,DV.pv]
   ·rename_i l sz i0 kk
    obtain ⟨j,rfl,hj,h⟩:=ny h
    refine .val (x:=.lp l sz i0 (kk+j*ie.size)) (fB hx' hi' hu hie (by omega) (by omega) ?_) trivial h
    simp [bX,DV.pv,Nat.add_assoc]
   ·rename_i t ls i0 y kk
    obtain ⟨j,rfl,hj,h⟩:=ny h
    refine .val (x:=.ep t ls i0 y (kk+j*ie.size)) (fB hx' hi' hu hie (by omega) (by omega) ?_) hp h
    simp [bX,DV.pv,Nat.add_assoc]
   ·simp at h
  ·simp at h
 ·simp at h
def DP (P:Program) (sel:Bool) (T:TypeId) (p:DV) (i:Int) (k:DV->DLb->DL->Option R):Option R:=match P.underlying T with
 | some .string=>match p with
  | .str s=>(getI s i).bind fun c=>k (.by c) [] []
  | _=>none
 | some (.array n e)=>match P.info? e with
  | some ie=>match p with
   | .agg cs=>idxI sel i n fun j=>match AK P e cs (j*ie.size) with
    | some v=>k v [] []
    | none=>none
   | _=>none
  | none=>none
 | _=>none
theorem FS (hG:E.G=gtPV G) (hal:alOk ra) {sel:Bool} {T:TypeId} {x ix:Operand} {p q:DV} {ki:IntKind} {i:Int} (hx:dev G ra x=some p) (hq:dev G ra ix=some q) (hi:lg q=some (ki,i))
  (h:DP E.P sel T p i k=some r):OpS E ⟨d,.index T x ix,ty,pos,after,g⟩ ra rl k r:=by
 obtain ⟨hx',hp⟩:=bj hal hx
 have hi':=(bj hal hq).1
 rw [iA hi] at hi'
 rw [<-hG] at hx' hi'
 unfold DP at h
 split at h
 ·rename_i hu
  split at h
  ·rename_i s
   obtain ⟨c,hc,h⟩:=bind_some h
   exact .val (x:=.by c) (Ed hx' hi' hu hc) trivial h
  ·simp at h
 ·rename_i n e hu
  split at h
  ·rename_i ie hie
   split at h
   ·rename_i cs
    obtain ⟨j,rfl,hj,h⟩:=ny h
    split at h
    ·rename_i v hv
     obtain ⟨h1,h2⟩:=zH hp hv
     exact .val (ub hx' hi' hu hie (by omega) (by omega) (by simpa using h1)) h2 h
    ·simp at h
   ·simp at h
  ·simp at h
 ·simp at h
end
end Go.SH
namespace Go.SH
variable [SentA]
def etOf (P:Program):Nat->TypeId->Option ET
 | 0,_=>none
 | f+1,T=>match P.underlying T with
  | some (.int .u8)=>some .tu
  | some (.int k)=>some (.ti k)
  | some .bool=>some .tb
  | some .string=>some .ts
  | some (.slice e)=>match etOf P f e with
   | some t=>some (.tl t)
   | none=>none
  | some (.struct fs)=>row (fs.toList.map fun fl=>etOf P f fl.type)
  | some (.array n e)=>row (List.replicate n (etOf P f e))
  | _=>none
where
 row:List (Option ET)->Option ET
  | []=>none
  | [t]=>t
  | some t::r=>match row r with
   | some u=>some (.tp t u)
   | none=>none
  | none::_=>none
section
variable {E:Env} {d:Option Tmp} {ty:TypeId} {pos:String} {after:Array Edge} {g:Option (Nat×Bool)} {ra:DAl} {rl:DLb} {R:Type} {r:R} {G:GTab} {k:DV->DLb->DL->Option R}
def srcL (rl:DLb) (t:ET) (q:DV) (kk:List t.T->Option R):Option R:=match q with
 | .nils=>kk []
 | .sl t' l=>if h:t'=t then kk (h▸l) else none
 | .rw lab sz off n co w=>if sz=t.sz then match lget rl lab with
  | some (.ls t' ls)=>if h:t'=t then match w with
    | true=>if off=0 then req (n=ls.length) (kk (h▸ls)) else none
    | false=>req (off+n<=ls.length) (kk (((h▸ls:List t.T).drop off).take n)) else none
  | some (.cs cs)=>if off*sz+n*sz<=cs.length/\(DV.pvs ((cs.drop (off*sz)).take (n*sz))).all PV.one=true then match t.all (n+1) ((cs.drop (off*sz)).take (n*sz)) with
    | some l=>kk l
    | none=>none else none
  | _=>none else none
 | _=>none
structure SrcS (rl:DLb) (t:ET) (q:DV) (l:List t.T) (cells:List PV):Prop where
 slc:SlC (dlb rl) t.sz q.pv cells l.length
 le:CLe cells (fl (el t) l)
 one:cells.all PV.one=true
 rw:∀lab sz off n co w,q = .rw lab sz off n co w->∃cc,lget (dlb rl) lab=some (some cc)/\off*t.sz+n*t.sz<=cc.length/\n=l.length/\(cc.drop (off*t.sz)).take (n*t.sz)=cells/\sz=t.sz
 u8:(t = .tu\/t = .ti .i32)->cells=fl (el t) l
theorem Jv {t:ET} {f:Nat} {cs:List DV} {l:List t.T} (h:t.all f cs=some l):cs.length=l.length*t.sz:=by
 have:=(D7 h).1
 rw [aB,bD,jg] at this
 exact this
theorem H3:∀{f:Nat} {cs:List DV} {l:List UInt8},ET.all .tu f cs=some l->DV.pvs cs=fl eU8 l
 | _,[],l,h=>by simp [ET.all] at h;subst h;rfl
 | 0,_::_,l,h=>by simp [ET.all] at h
 | f+1,c::cs,l,h=>by
  simp only [ET.all] at h
  split at h
  ·rename_i x r hx
   obtain ⟨d,e,h1⟩:=aS hx
   simp at e;obtain ⟨rfl,rfl⟩:=e
   split at h
   ·rename_i l' hl
    simp at h;subst h
    rw [cj,<-H3 hl]
    show c.pv::DV.pvs cs=[PV.int .u8 _]++_
    rw [A2 h1];rfl
   ·simp at h
  ·simp at h
theorem H4:∀{f:Nat} {cs:List DV} {l:List Int},ET.all (.ti .i32) f cs=some l->DV.pvs cs=fl (el (.ti .i32)) l
 | _,[],l,h=>by simp [ET.all] at h;subst h;rfl
 | 0,_::_,l,h=>by simp [ET.all] at h
 | f+1,c::cs,l,h=>by
  simp only [ET.all] at h
  split at h
  ·rename_i x r hx
   obtain ⟨d,e,h1⟩:=aS hx
   simp at e;obtain ⟨rfl,rfl⟩:=e
   split at h
   ·rename_i l' hl
    simp at h;subst h
    rw [cj,<-H4 hl]
    obtain rfl:=yh h1
    rfl
   ·simp at h
  ·simp at h
theorem EN:∀l:List Int,fl (el (.ti .i32)) l=l.map (PV.int .i32)
 | []=>rfl
 | x::l=>by rw [cj,EN l];rfl
theorem Hp {α:Type} (e:El α) (l:List α) (a n:Nat):((fl e l).drop (a*e.sz)).take (n*e.sz)=fl e ((l.drop a).take n):=by rw [AE,wu]
theorem iG {t:ET} {q:DV} {kk:List t.T->Option R} (h:srcL rl t q kk=some r):∃l cells,SrcS rl t q l cells/\kk l=some r:=by
 have hz:=jg t
 unfold srcL at h
 split at h
 ·exact ⟨[],[],⟨⟨by simp,rfl⟩,.refl _,rfl,fun _ _ _ _ _ _ h=>(by cases h),fun _=>rfl⟩,h⟩
 ·rename_i t' l
  split at h
  ·rename_i e;subst e
   exact ⟨l,fl (el t') l,⟨⟨by rw [bD,hz],rfl,rfl⟩,.refl _,Dx l,fun _ _ _ _ _ _ h=>(by cases h),fun _=>rfl⟩,h⟩
  ·simp at h
 ·rename_i lab sz off n co w
  split at h
  ·rename_i hs;subst hs
   split at h
   ·rename_i t' ls hl
    have hg:lget (dlb rl) lab=some (some (fl (el t') ls)):=by rw [an,hl];rfl
    split at h
    ·rename_i e;subst e
     split at h
     ·split at h
      ·rename_i e;subst e
       obtain ⟨e,h'⟩:=cR h
       subst e
       have e1:((fl (el t') ls).drop (0*t'.sz)).take (ls.length*t'.sz)=fl (el t') ls:=by rw [Nat.zero_mul,List.drop_zero,<-hz,<-bD,List.take_length]
       refine ⟨ls,fl (el t') ls,⟨⟨by rw [bD,hz],rfl,rfl,_,hg,e1⟩,.refl _,Dx ls,?_,fun _=>rfl⟩,h'⟩
       intro _ _ _ _ _ _ e;cases e
       exact ⟨_,hg,by rw [bD,hz];omega,rfl,e1,rfl⟩
      ·simp at h
     ·obtain ⟨hb,h⟩:=cR h
      have e1:((fl (el t') ls).drop (off*t'.sz)).take (n*t'.sz)=fl (el t') ((ls.drop off).take n):=by rw [<-hz];exact Hp _ _ _ _
      have e2:((ls.drop off).take n).length=n:=by simp;omega
      refine ⟨(ls.drop off).take n,_,⟨⟨by rw [bD,hz,e2],e2.symm,rfl,_,hg,by rw [e2];exact e1⟩,.refl _,Dx _,?_,fun _=>rfl⟩,h⟩
      intro _ _ _ _ _ _ e;cases e
      exact ⟨_,hg,by rw [bD,hz,<-Nat.add_mul];exact Nat.mul_le_mul_right _ hb,e2.symm,e1,rfl⟩
    ·simp at h
   ·rename_i cs hl
    have hg:lget (dlb rl) lab=some (some (DV.pvs cs)):=by rw [an,hl];rfl
    split at h
    ·rename_i hc;obtain ⟨h1,h2⟩:=hc
     split at h
     ·rename_i l hal
      have e0:=Jv hal
      have e1:n=l.length:=by
       have e3:((cs.drop (off*t.sz)).take (n*t.sz)).length=n*t.sz:=by simp;omega
       rw [e3] at e0
       exact Nat.eq_of_mul_eq_mul_right t.sz_pos e0
      have e2:DV.pvs ((cs.drop (off*t.sz)).take (n*t.sz))=((DV.pvs cs).drop (off*t.sz)).take (n*t.sz):=by rw [pq,pr]
      refine ⟨l,_,⟨⟨by rw [aB];exact e0,e1,rfl,_,hg,by rw [<-e1,e2]⟩,D7 hal,h2,?_,?_⟩,h⟩
      ·intro _ _ _ _ _ _ e;cases e
       exact ⟨_,hg,by rw [aB];exact h1,e1,e2.symm,rfl⟩
      ·rintro (e | e)
       ·subst e;exact H3 hal
       ·subst e;exact H4 hal
     ·simp at h
    ·simp at h
   ·simp at h
  ·simp at h
 ·simp at h
def aI:Nat:=140737488355328
def fk (fq:Nat) (t:ET):ET:=match fq with
 | 0=>t
 | q=>match t with
  | .tl t=>.tf q t
  | t=>t
theorem LS (fq:Nat) (t:ET):(fk fq t).sz=t.sz:=by
 unfold fk
 split
 ·rfl
 ·cases t <;> rfl
def AH (P:Program) (fq:Nat) (T:TypeId):Option (TypeInfo×List DV×ET):=match P.underlying T with
 | some (.slice e)=>match P.info? e with
  | some ie=>match dz P e with
   | some z=>match etOf P 20 e with
    | some t=>if z.length=ie.size/\0<ie.size/\ie.size=t.sz/\0<ie.bytes then some (ie,z,fk fq t) else none
    | none=>none
   | none=>none
  | none=>none
 | _=>none
theorem zD {P:Program} {fq:Nat} {T:TypeId} {ie:TypeInfo} {z:List DV} {t:ET} (h:AH P fq T=some (ie,z,t)):∃e,P.underlying T=some (.slice e)/\P.info? e=some ie/\g7 P e=some (DV.pvs z)/\DV.oks z/\z.length=ie.size/\0<ie.size/\ie.size=t.sz/\0<ie.bytes:=by
 unfold AH at h
 split at h
 ·rename_i e hu
  split at h
  ·rename_i i hi
   split at h
   ·rename_i z' hz
    split at h
    ·split at h
     ·rename_i hc
      simp at h;obtain ⟨rfl,rfl,rfl⟩:=h
      obtain ⟨z1,z2⟩:=ER hz
      exact ⟨e,hu,hi,z1,z2,hc.1,hc.2.1,by rw [LS];exact hc.2.2.1,hc.2.2.2⟩
     ·simp at h
    ·simp at h
   ·simp at h
  ·simp at h
 ·simp at h
def Hi (P:Program) (T:TypeId):Bool:=match P.underlying T with | some (.slice _)=>true | _=>false
def Hh (P:Program) (T:TypeId):Bool:=match P.underlying T with | some .string=>true | _=>false
def srcA (P:Program) (rl:DLb) (t:ET) (tx:TypeId) (q:DV) (kk:List t.T->Option R):Option R:=match q with
 | .str s=>if h:t = .tu then (if Hh P tx=true then kk (h▸s) else none) else none
 | q=>if Hi P tx=true then srcL rl t q kk else none
theorem Iy {t:ET} {tx:TypeId} {q:DV} {kk:List t.T->Option R} (h:srcA E.P rl t tx q kk=some r):∃l cells,sb E.P (dlb rl) t.sz tx q.pv cells l.length/\CLe cells (fl (el t) l)/\kk l=some r:=by
 have hsl:∀{q:DV},Hi E.P tx=true->srcL rl t q kk=some r->∃l cells,sb E.P (dlb rl) t.sz tx q.pv cells l.length/\CLe cells (fl (el t) l)/\kk l=some r:=by
  intro q h1 h2
  obtain ⟨l,cells,hs,h⟩:=iG h2
  refine ⟨l,cells,.inl ⟨?_,hs.slc,hs.one⟩,hs.le,h⟩
  unfold Hi at h1
  split at h1
  ·rename_i e he;exact ⟨e,he⟩
  ·simp at h1
 unfold srcA at h
 split at h
 ·rename_i s
  split at h
  ·rename_i e;subst e
   split at h
   ·rename_i h1
    refine ⟨s,_,.inr ⟨?_,rfl,s,rfl,rfl,(Km s).symm⟩,.refl _,h⟩
    unfold Hh at h1
    split at h1
    ·assumption
    ·simp at h1
   ·simp at h
  ·simp at h
 ·split at h
  ·rename_i h1;exact hsl h1 h
  ·simp at h
def xI:DV->DLb
 | .rw lab _ _ _ _ _=>[(lab,.gone)]
 | _=>[]
def JX:DV->Bool
 | .nils=>true
 | .rw _ _ _ _ _ _=>true
 | _=>false
def AR (P:Program) (fq:Nat) (rl:DLb) (nl:Nat) (T tx:TypeId) (p q:DV) (k:DV->DLb->DL->Option R):Option R:=match AH P fq T with
 | some (ie,z,t)=>if JX p=true then srcL rl t p fun b=>srcA P rl t tx q fun m=>req ((b++m).length*ie.bytes<=aI) (k (.rw nl t.sz 0 (b++m).length none true) (xI p++[(nl,.ls t (b++m))]) ((xI p).map (fun x=>(x.1,none))++[(nl,none)])) else none
 | none=>none
theorem DU {fq:Nat} (hG:E.G=gtPV G) (hal:alOk ra) {nl:Nat} (hn:lget rl nl=none) {T tx:TypeId} {x y:Operand} {p q:DV} (hx:dev G ra x=some p) (hy:dev G ra y=some q)
  (h:AR E.P fq rl nl T tx p q k=some r):OpS E ⟨d,.call ⟨.builtin .append,#[x,y],#[T,tx]⟩,ty,pos,after,g⟩ ra rl k r:=by
 have hx':=(bj hal hx).1
 have hy':=(bj hal hy).1
 rw [<-hG] at hx' hy'
 have hn':lget (dlb rl) nl=none:=by simp [an,hn]
 unfold AR at h
 split at h
 ·rename_i ie z t he
  obtain ⟨e,hu,hie,hz,hz2,hzl,hpos,hsz,hby⟩:=zD he
  split at h
  ·rename_i hd
   obtain ⟨b,cb,hb,h⟩:=iG h
   obtain ⟨m,cm,hm,hml,h⟩:=Iy h
   obtain ⟨hc,h⟩:=cR h
   have hlen:(b++m).length=b.length+m.length:=by simp
   unfold aI at hc
   have hc2:(b++m).length<=9223372036854775807:=Nat.le_trans (Nat.le_mul_of_pos_right _ hby) (by omega)
   rw [hlen] at hc hc2
   rw [<-hsz] at hm
   have hdl:∀wl:DLb,wl=xI p++[(nl,.ls t (b++m))]->wlOk wl/\lu rl wl ((xI p).map (fun x=>(x.1,none))++[(nl,none)]):=by
    rintro _ rfl
    refine ⟨fun p hp=>?_,fun p hp=>.inl ?_⟩
    ·rcases List.mem_append.1 hp with hp | hp
     ·unfold xI at hp;split at hp
      ·simp at hp;subst hp;trivial
      ·simp at hp
     ·simp at hp;subst hp;trivial
    ·rcases List.mem_append.1 hp with hp | hp
     ·exact List.mem_append_left _ (List.mem_map.2 ⟨p,hp,rfl⟩)
     ·simp at hp;subst hp;exact List.mem_append_right _ (by simp)
   unfold JX at hd
   split at hd
   ·have h0:b=[]:=List.eq_nil_of_length_eq_zero hb.slc.2
    subst h0
    have hA:=C0 (d:=d) (ty:=ty) (pos:=pos) (after:=after) (g:=g) nl hx' hy' hu hie hz (by rw [aB];exact hzl) (.inl rfl) hm hpos (by simpa using hc) (by simpa using hc2) hn'
    have h1:=hdl _ rfl
    refine ⟨.rw nl t.sz 0 ([]++m).length none true,[(nl,.ls t ([]++m))],_,AOp.weak hA ?_ (.one hml),trivial,h1.1,h1.2,h⟩
    rw [hsz];simp [DV.pv];exact .refl _
   ·rename_i lab sz off n co w _ _ _
    obtain ⟨cc,c1,c2,c3,c4,c5⟩:=hb.rw _ _ _ _ _ _ rfl
    subst c5;subst c3
    rw [<-hsz] at c2 c4
    have hx2:xev E.G (dal ra) x=some (.rw lab (off*ie.size) b.length ie.size co):=by rw [hx',hsz];rfl
    have hA:=CZ (d:=d) (ty:=ty) (pos:=pos) (after:=after) (g:=g) nl hx2 hy' hu hie hz (by rw [aB];exact hzl) c1 c2 hm hpos hc hc2 hn'
    have h1:=hdl _ rfl
    refine ⟨.rw nl t.sz 0 (b++m).length none true,[(lab,.gone),(nl,.ls t (b++m))],_,AOp.weak hA ?_ (.gone (.one ?_)),trivial,h1.1,h1.2,h⟩
    ·rw [hsz,hlen];simp [DV.pv];exact .refl _
    ·rw [c4,qm];exact hb.le.append hml
   ·simp at hd
  ·simp at h
 ·simp at h
def cpy {α:Type} (l:List α) (off:Nat) (m:List α) (c:Nat):List α:=l.take off++(m.take c++l.drop (off+c))
theorem KF {α:Type} {e:El α} {l m:List α} {off c:Nat} {cm:List PV} (h1:off+c<=l.length) (h2:c<=m.length) (hm:CLe cm (fl e m)) :
  CLe (dw (fl e l) (off*e.sz) (cm.take (c*e.sz))) (fl e (cpy l off m c)):=by
 have hl:(cm.take (c*e.sz)).length=c*e.sz:=by
  have:=hm.1
  rw [bD] at this
  rw [List.length_take,this,Nat.min_eq_left (Nat.mul_le_mul_right _ h2)]
 have hl2:(fl e (m.take c)).length=c*e.sz:=by rw [bD,List.length_take,Nat.min_eq_left h2]
 unfold dw cpy
 rw [hl,<-Nat.add_mul,AE,wu,qm,qm,List.append_assoc]
 refine (CLe.refl _).append (CLe.append ⟨hl.trans hl2.symm,fun i x y hx hy=>?_⟩ (.refl _))
 rw [<-wu] at hy
 rw [List.getElem?_take] at hx hy
 split at hx
 ·rename_i hi;rw [if_pos hi] at hy;exact hm.2 i x y hx hy
 ·simp at hx
def HP (P:Program) (rl:DLb) (T:TypeId) (p q:DV) (k:DV->DLb->DL->Option R):Option R:=match P.underlying T with
 | some (.slice e)=>match P.info? e with
  | some ie=>match p with
   | .rw l sz off n co w=>match lget rl l with
    | some (.ls t ls)=>if sz=t.sz/\ie.size=t.sz then req (off+n<=ls.length) (srcL rl t q fun m=>k (.int .i64 ((min m.length n:Nat):Int)) [(l,.ls t (cpy ls off m (min m.length n)))] [(l,none)]) else none
    | _=>none
   | _=>none
  | none=>none
 | _=>none
theorem HO (hG:E.G=gtPV G) (hal:alOk ra) {T tx:TypeId} {x y:Operand} {p q:DV} (hx:dev G ra x=some p) (hy:dev G ra y=some q)
  (h:HP E.P rl T p q k=some r):OpS E ⟨d,.call ⟨.builtin .copy,#[x,y],#[T,tx]⟩,ty,pos,after,g⟩ ra rl k r:=by
 have hx':=(bj hal hx).1
 have hy':=(bj hal hy).1
 rw [<-hG] at hx' hy'
 unfold HP at h
 split at h
 ·rename_i e hu
  split at h
  ·rename_i ie hie
   split at h
   ·rename_i l sz off n co w
    split at h
    ·rename_i t ls hl
     split at h
     ·rename_i hs;obtain ⟨hs,hs2⟩:=hs;subst hs
      obtain ⟨hb,h⟩:=cR h
      obtain ⟨m,cm,hm,h⟩:=iG h
      have hg:lget (dlb rl) l=some (some (fl (el t) ls)):=by rw [an,hl];rfl
      have hx2:xev E.G (dal ra) x=some (.rw l (off*t.sz) n ie.size co):=by rw [hx',hs2];rfl
      have hA:=Im (d:=d) (ty:=ty) (pos:=pos) (after:=after) (g:=g) (tx:=tx) hx2 hy' hu hie hg (by rw [bD,hs2,jg,<-Nat.add_mul];exact Nat.mul_le_mul_right _ hb) (by rw [hs2];exact hm.slc) hm.one (m:=min m.length n) rfl
      refine ⟨_,_,_,AOp.weak hA (y:=(DV.int .i64 ((min m.length n:Nat):Int)).pv) (.refl _) (wl':=dlb [(l,.ls t (cpy ls off m (min m.length n)))]) (.one ?_),trivial,?_,?_,h⟩
      ·rw [hs2,<-jg]
       exact KF (by omega) (by omega) hm.le
      ·intro p hp;simp at hp;subst hp;trivial
      ·intro p hp;simp at hp;subst hp;exact .inl (by simp)
     ·simp at h
    ·simp at h
   ·simp at h
  ·simp at h
 ·simp at h
def loOf (G:GTab) (al:DAl) (o:Option Operand) (dflt:Int):Option Int:=match o with
 | none=>some dflt
 | some o=>match dev G al o with
  | some v=>match lg v with
   | some (_,i)=>some i
   | none=>none
  | none=>none
theorem l6 (hG:E.G=gtPV G) (hal:alOk ra) {o:Option Operand} {dflt:Nat} {i:Int} (h:loOf G ra o dflt=some i) (h0:0<=i):bnd E.G (dal ra) o dflt i.toNat:=by
 unfold loOf at h
 split at h
 ·simp at h;subst h;rfl
 ·rename_i o
  split at h
  ·rename_i v hv
   split at h
   ·rename_i k i' hi
    simp at h;subst h
    have:=(bj hal hv).1
    rw [iA hi,<-hG] at this
    exact Jo this h0
   ·simp at h
  ·simp at h
def DO (P:Program) (G:GTab) (al:DAl) (T:TypeId) (rl:DLb) (p:DV) (lo hi:Option Operand) (k:DV->DLb->DL->Option R):Option R:=
 match loOf G al lo 0 with
 | some a=>match P.underlying T with
  | some .string=>match p with
   | .str s=>match loOf G al hi (s.length:Nat) with
    | some b=>req (0<=a/\a<=b/\b<=(s.length:Nat)) (k (.str (sub s a.toNat b.toNat)) [] [])
    | none=>none
   | _=>none
  | some (.slice e)=>match P.info? e with
   | some ie=>match p with
    | .sl t ls=>match loOf G al hi (ls.length:Nat) with
     | some b=>if ie.size=t.sz then req (0<=a/\a<=b/\b<=(ls.length:Nat)) (k (.sl t (sub ls a.toNat b.toNat)) [] []) else none
     | none=>none
    | .rw l sz off n co w=>match loOf G al hi (n:Nat) with
     | some b=>if ie.size=sz/\0<sz then req (0<=a/\a<=b/\b<=(n:Nat)) (k (.rw l sz (a.toNat+off) (b.toNat-a.toNat) none false) [] []) else none
     | none=>none
    | _=>none
   | none=>none
  | some (.array n e)=>match P.info? e with
   | some ie=>match p with
    | .ptr l off=>match lget rl l with
     | some (.cs cs)=>match loOf G al hi (n:Nat) with
      | some b=>if cs.length=n*ie.size/\0<n*ie.size/\off=0/\0<=a/\a<=b/\b<=(n:Nat) then k (.rw l ie.size a.toNat (b.toNat-a.toNat) none false) [] [] else none
      | none=>none
     | _=>none
    | _=>none
   | none=>none
  | _=>none
 | none=>none
theorem FQ (hG:E.G=gtPV G) (hal:alOk ra) {T:TypeId} {x:Operand} {lo hi:Option Operand} {p:DV} (hx:dev G ra x=some p)
  (h:DO E.P G ra T rl p lo hi k=some r):OpS E ⟨d,.slice T x lo hi none,ty,pos,after,g⟩ ra rl k r:=by
 have hx':=(bj hal hx).1
 rw [<-hG] at hx'
 unfold DO at h
 split at h
 ·rename_i a ha
  split at h
  ·rename_i hu
   split at h
   ·rename_i s
    split at h
    ·rename_i b hb
     obtain ⟨⟨h0,h1,h2⟩,h⟩:=cR h
     exact .val (x:=.str _) (yT hx' hu (l6 hG hal ha h0) (l6 hG hal hb (by omega)) (by omega) (by omega)) trivial h
    ·simp at h
   ·simp at h
  ·rename_i e hu
   split at h
   ·rename_i ie hie
    split at h
    ·rename_i t ls
     split at h
     ·rename_i b hb
      split at h
      ·rename_i hs
       obtain ⟨⟨h0,h1,h2⟩,h⟩:=cR h
       exact .val (x:=.sl t _) (CV hx' rfl hu hie (by rw [hs,jg]) (l6 hG hal ha h0) (l6 hG hal hb (by omega)) (by omega) (by omega) rfl) trivial h
      ·simp at h
     ·simp at h
    ·rename_i l sz off n co w
     split at h
     ·rename_i b hb
      split at h
      ·rename_i hs;obtain ⟨hs,hp⟩:=hs
       obtain ⟨⟨h0,h1,h2⟩,h⟩:=cR h
       refine .val (x:=.rw l sz (a.toNat+off) (b.toNat-a.toNat) none false) (zZ (n:=n) hx' hu hie rfl (l6 hG hal ha h0) (l6 hG hal hb (by omega)) (by omega) (by omega) ?_ (by omega) (fun _ _ _ h=>by simp [DV.pv] at h)) trivial h
       simp [wF,DV.pv,hs,Nat.add_mul];omega
      ·simp at h
     ·simp at h
    ·simp at h
   ·simp at h
  ·rename_i n e hu
   split at h
   ·rename_i ie hie
    split at h
    ·rename_i l off
     split at h
     ·rename_i cs hl
      split at h
      ·rename_i b hb
       split at h
       ·rename_i hc;obtain ⟨c1,c2,rfl,h0,h1,h2⟩:=hc
        exact .val (x:=.rw l ie.size a.toNat (b.toNat-a.toNat) none false) (Bh (cells:=DV.pvs cs) ie.size hx' (by rw [an,hl];rfl) hu hie rfl (by rw [aB];exact c1) c2 (l6 hG hal ha h0) (l6 hG hal hb (by omega)) (by omega) (by omega)) trivial h
       ·simp at h
      ·simp at h
     ·simp at h
    ·simp at h
   ·simp at h
  ·simp at h
 ·simp at h
end
end Go.SH
namespace Go.SH
variable [SentA]
theorem iQ {α:Type}:∀(wl L:List (Nat×α)) (l:Nat),(∃p∈wl,p.1=l/\lget (lupd L wl) l=some p.2)\/((∀p∈wl,p.1≠l)/\lget (lupd L wl) l=lget L l)
 | [],L,l=>.inr ⟨by simp,rfl⟩
 | (k,y)::r,L,l=>by
  rcases iQ r (lset L k y) l with ⟨p,hp,h1,h2⟩ | ⟨h1,h2⟩
  ·exact .inl ⟨p,by simp [hp],h1,h2⟩
  ·by_cases e:k=l
   ·subst e
    refine .inl ⟨(k,y),by simp,rfl,?_⟩
    show lget (lupd (lset L k y) r) k=_
    rw [h2,ao,if_pos rfl]
   ·refine .inr ⟨fun p hp=>?_,?_⟩
    ·rcases List.mem_cons.1 hp with rfl | hp
     ·exact e
     ·exact h1 p hp
    ·show lget (lupd (lset L k y) r) l=_
     rw [h2,ao,if_neg e]
structure St where
 al:DAl
 L:DLb
 ds:List Nat
 dl:DL
def St.ok (s:St):Prop:=alOk s.al/\lbOk s.L
def St.set (s:St) (d:Option Nat) (x:DV):St:=match d with
 | some t=>{ s with al:=(t,x)::s.al,ds:=t::s.ds }
 | none=>s
def St.wr (s:St) (wl:DLb) (dl:DL):St:={ s with L:=lupd s.L wl,dl:=dl++s.dl }
def St.clean (s:St):St:={ s with ds:=[],dl:=[] }
structure Ext (b s:St):Prop where
 sl:∀t,t ∉ s.ds->lget s.al t=lget b.al t
 lb:∀l,(∀i,(l,i) ∉ s.dl)->lget s.L l=lget b.L l
 ce:∀l cs0,(l,none) ∉ s.dl->lget b.L l=some (.cs cs0)->∃cs,lget s.L l=some (.cs cs)/\cs.length=cs0.length/\∀i,(l,some i) ∉ s.dl->cs[i]?=cs0[i]?
theorem Ext.refl (s:St):Ext s s:=⟨fun _ _=>rfl,fun _ _=>rfl,fun l cs0 _ h=>⟨cs0,h,rfl,fun _ _=>rfl⟩⟩
theorem Ext.set {b s:St} (h:Ext b s) (d:Option Nat) (x:DV):Ext b (s.set d x):=by
 cases d with
 | none=>exact h
 | some t=>
  refine ⟨fun u hu=>?_,h.lb,h.ce⟩
  simp only [St.set,List.mem_cons,not_or] at hu ⊢
  rw [lget,if_neg (fun e=>hu.1 e.symm)]
  exact h.sl u hu.2
theorem Ext.wr {b s:St} (h:Ext b s) {wl:DLb} {dl:DL} (hd:lu s.L wl dl):Ext b (s.wr wl dl):=by
 refine ⟨h.sl,fun l hl=>?_,fun l cs0 hl h0=>?_⟩
 ·simp only [St.wr,List.mem_append,not_or] at hl ⊢
  rcases iQ wl s.L l with ⟨p,hp,rfl,h2⟩ | ⟨_,h2⟩
  ·rcases hd p hp with h3 | ⟨cs,cs',h3,h4,h5,h6⟩
   ·exact absurd h3 (hl none).1
   ·rw [h2,h4,<-h.lb p.1 (fun i=>(hl i).2),h3]
    congr 2
    exact List.ext_getElem? fun i=>h6 i (hl (some i)).1
  ·rw [h2];exact h.lb l fun i=>(hl i).2
 ·simp only [St.wr,List.mem_append,not_or] at hl ⊢
  obtain ⟨cs,h1,h2,h3⟩:=h.ce l cs0 hl.2 h0
  rcases iQ wl s.L l with ⟨p,hp,rfl,h4⟩ | ⟨_,h4⟩
  ·rcases hd p hp with h5 | ⟨c1,c2,h5,h6,h7,h8⟩
   ·exact absurd h5 hl.1
   ·rw [h1] at h5;simp at h5;subst h5
    refine ⟨c2,by rw [h4,h6],by rw [h7,h2],fun i hi=>?_⟩
    rw [h8 i hi.1];exact h3 i hi.2
  ·exact ⟨cs,by rw [h4];exact h1,h2,fun i hi=>h3 i hi.2⟩
def Up (s s':St):Prop:=∀b,Ext b s->Ext b s'
theorem Up.refl (s:St):Up s s:=fun _ h=>h
theorem Up.trans {s s' s'':St} (h:Up s s') (h':Up s' s''):Up s s'':=fun b k=>h' b (h b k)
theorem RenC.of_get {τ:Nat->Nat} {S:Nat->Bool}:∀{xs ys:List PV},xs.length=ys.length->(∀(i:Nat) (x y:PV),xs[i]?=some x->ys[i]?=some y->Ren τ S x y)->RenC τ S xs ys
 | [],[],_,_=>.nil
 | [],_::_,h,_=>by simp at h
 | _::_,[],h,_=>by simp at h
 | x::xs,y::ys,h,k=>.cons (k 0 x y rfl rfl) (.of_get (by simpa using h) fun i a b ha hb=>k (i+1) a b (by simpa using ha) (by simpa using hb))
theorem RenC.append {τ:Nat->Nat} {S:Nat->Bool} {xs ys xs' ys':List PV} (h:RenC τ S xs ys) (h':RenC τ S xs' ys'):RenC τ S (xs++xs') (ys++ys'):=by
 obtain ⟨h1,h2⟩:=h.get
 obtain ⟨h3,h4⟩:=h'.get
 refine .of_get (by simp [h1,h3]) fun i x y hx hy=>?_
 by_cases hi:i<xs.length
 ·rw [List.getElem?_append_left hi] at hx;rw [List.getElem?_append_left (by omega)] at hy;exact h2 i x y hx hy
 ·rw [List.getElem?_append_right (by omega)] at hx;rw [List.getElem?_append_right (by omega),<-h1] at hy;exact h4 _ x y hx hy
theorem EZ {τ:Nat->Nat} {S:Nat->Bool} {T:TypeId} {d:DV} {x:Option Nat} (h:asE T d=some x):Ren τ S d.pv (.ev T (x.map SentA.f)):=by
 unfold asE at h
 split at h
 ·simp at h;subst h;exact .niliEv
 ·split at h
  ·rename_i e;subst e;simp at h;subst h;exact .pure rfl
  ·simp at h
 ·simp at h
theorem KP {T:TypeId} {t:ET} {d:DV} {x:Option t.T} (h:asO T t d=some x):d.pv=optI T (el t) x:=by
 unfold asO at h
 split at h
 ·simp at h;subst h;rfl
 ·split at h
  ·rename_i e;subst e
   split at h
   ·rename_i e;subst e;simp at h;subst h;rfl
   ·simp at h
  ·simp at h
 ·split at h
  ·rename_i e;subst e
   split at h
   ·rename_i e;subst e;simp at h;subst h
    simp only [DV.pv,optI,cj,rO,List.append_nil]
   ·simp at h
  ·simp at h
 ·simp at h
theorem KN {t:ET} {d:DV} {x:Option t.T} (h:asQ t d=some x):d.pv=optQ (el t) x:=by
 unfold asQ at h
 split at h
 ·simp at h;subst h;rfl
 ·split at h
  ·rename_i e;subst e;simp at h;subst h;rfl
  ·simp at h
 ·split at h
  ·rename_i e;subst e;simp at h;subst h
   simp only [DV.pv,optQ,cj,rO,List.append_nil]
  ·simp at h
 ·simp at h
theorem qd {t:ET} (T:TypeId) (x:Option t.T):pureF (optI T (el t) x)=true:=by
 have:=(el (.to T t)).hpure x
 simpa [el,eO,bY] using this
theorem qc {t:ET} (x:Option t.T):pureF (optQ (el t) x)=true:=by
 have:=(el (.tq t)).hpure x
 simpa [el,eQ,bY] using this
theorem EY {τ:Nat->Nat} {S:Nat->Bool} {T:TypeId} {t:ET} {d:DV} {x:Option t.T} (h:asO T t d=some x):Ren τ S d.pv (optI T (el t) x):=by
 rw [KP h];exact .pure (qd T x)
theorem EX {τ:Nat->Nat} {S:Nat->Bool} {t:ET} {d:DV} {x:Option t.T} (h:asQ t d=some x):Ren τ S d.pv (optQ (el t) x):=by
 rw [KN h];exact .pure (qc x)
theorem Ad {τ:Nat->Nat} {S:Nat->Bool}:∀(t:ET) {cs r:List DV} {x:t.T},t.un cs=some (x,r)->∃ds,cs=ds++r/\RenC τ S (DV.pvs ds) ((el t).pv x):=by
 intro t
 induction t with
 | ti k=>intro cs r x h;obtain ⟨d,rfl,h1⟩:=aS h;obtain rfl:=yh h1;exact ⟨[.int _ _],rfl,.pure rfl⟩
 | tu=>intro cs r x h;obtain ⟨d,rfl,h1⟩:=aS h;exact ⟨[d],rfl,by rw [DV.pvs,A2 h1];exact .pure rfl⟩
 | tb=>intro cs r x h;obtain ⟨d,rfl,h1⟩:=aS h;obtain rfl:=A7 h1;exact ⟨[.bool _],rfl,.pure rfl⟩
 | ts=>intro cs r x h;obtain ⟨d,rfl,h1⟩:=aS h;obtain rfl:=A3 h1;exact ⟨[.str _],rfl,.pure rfl⟩
 | tn=>intro cs r x h;simp [ET.un] at h
 | tl t _=>
  intro cs r x h;obtain ⟨d,rfl,h1⟩:=aS h
  rcases A4 h1 with ⟨rfl,rfl⟩ | rfl
  ·exact ⟨[.nils],rfl,.cons .nilsRo .nil⟩
  ·exact ⟨[.sl _ _],rfl,.pure ((el (.tl t)).hpure x)⟩
 | tf q t _=>
  intro cs r x h;obtain ⟨d,rfl,h1⟩:=aS h
  rcases A6 h1 with ⟨rfl,rfl⟩ | rfl
  ·exact ⟨[.nils],rfl,.cons .nilsFs .nil⟩
  ·exact ⟨[.fsl _ _ _],rfl,.pure ((el (.tf q t)).hpure x)⟩
 | te T=>
  intro cs r x h;obtain ⟨d,rfl,h1⟩:=aS h
  exact ⟨[d],rfl,.cons (EZ h1) .nil⟩
 | to T t _=>intro cs r x h;obtain ⟨d,rfl,h1⟩:=aS h;exact ⟨[d],rfl,.cons (EY h1) .nil⟩
 | tq t _=>intro cs r x h;obtain ⟨d,rfl,h1⟩:=aS h;exact ⟨[d],rfl,.cons (EX h1) .nil⟩
 | tk fs=>intro cs r x h;obtain ⟨d,rfl,h1⟩:=aS h;exact ⟨[d],rfl,by rw [DV.pvs,D2 h1];exact .cons (.pure (pK fs x)) .nil⟩
 | tp a c iha ihc=>
  intro cs r x h
  simp only [ET.un] at h
  split at h
  ·rename_i x1 r1 h1
   split at h
   ·rename_i x2 r2 h2
    simp at h;obtain ⟨rfl,rfl⟩:=h
    obtain ⟨d1,rfl,e1⟩:=iha h1
    obtain ⟨d2,rfl,e2⟩:=ihc h2
    exact ⟨d1++d2,by simp,by rw [bO];exact e1.append e2⟩
   ·simp at h
  ·simp at h
abbrev TV:=Sigma ET.T
inductive Sh where
 | h (t:ET)
 | st (t:ET)
 | k (d:DV)
 | ptr (l o:Nat)
 | rww (l sz:Nat)
 | rwf (l sz:Nat)
 | fn (f:FuncId) (cs:List Sh)
 | iface (t:TypeId) (s:Sh)
 | agg (cs:List Sh)
 | tup (cs:List Sh)
structure GS where
 vs:List TV
 m:List (Nat×Nat)
 q:List (Nat×Nat)
def GS.lab (g:GS) (l l':Nat):Option GS:=match lget g.m l with
 | some x=>if x=l' then some g else none
 | none=>some { g with m:=(l,l')::g.m }
def GS.put (g:GS) (x:TV):GS:={ g with vs:=g.vs++[x] }
def wA:DV->DV->Bool
 | .dead,.dead=>true
 | .nilp,.nilp=>true
 | .nils,.nils=>true
 | .nilf,.nilf=>true
 | .nili,.nili=>true
 | .int k n,.int k' n'=>decide (k=k')&&decide (n=n')
 | .bool b,.bool b'=>b==b'
 | .str s,.str s'=>s==s'
 | _,_=>false
theorem yd {a b:DV} (h:wA a b=true):a=b/\iY a.pv=true/\a.ok:=by
 unfold wA at h
 split at h
 ·exact ⟨rfl,rfl,trivial⟩
 ·exact ⟨rfl,rfl,trivial⟩
 ·exact ⟨rfl,rfl,trivial⟩
 ·exact ⟨rfl,rfl,trivial⟩
 ·exact ⟨rfl,rfl,trivial⟩
 ·simp at h;obtain ⟨rfl,rfl⟩:=h;exact ⟨rfl,rfl,trivial⟩
 ·simp at h;subst h;exact ⟨rfl,rfl,trivial⟩
 ·simp at h;subst h;exact ⟨rfl,rfl,trivial⟩
 ·simp at h
mutual
def Sh.get (fr:Nat):Sh->DV->GS->Option GS
 | .h t,d,g=>match t.one [d] with
  | some x=>some (g.put ⟨t,x⟩)
  | none=>none
 | .st t,d,g=>match d with
  | .agg ds=>match t.one ds with
   | some x=>some (g.put ⟨t,x⟩)
   | none=>none
  | _=>none
 | .k c,d,g=>if wA c d=true then some g else none
 | .ptr l o,d,g=>match d with
  | .ptr l' o'=>if o=o' then g.lab l l' else none
  | _=>none
 | .rww l sz,d,g=>match d with
  | .rw l' sz' off n _ _=>if sz=sz'/\off=0 then match g.lab l l' with
   | some g=>some { g with q:=(l,n)::g.q }
   | none=>none else none
  | .nils=>match g.lab l (fr+l) with
   | some g=>some { g with q:=(l,0)::g.q }
   | none=>none
  | _=>none
 | .rwf l sz,d,g=>match d with
  | .rw l' sz' off n _ _=>if sz=sz' then match g.lab l l' with
   | some g=>some ((g.put ⟨.tn,off⟩).put ⟨.tn,n⟩)
   | none=>none else none
  | _=>none
 | .fn f cs,d,g=>match d with
  | .fn f' ds=>if f=f' then Sh.gets fr cs ds g else none
  | _=>none
 | .iface t s,d,g=>match d with
  | .iface t' d'=>if t=t' then s.get fr d' g else none
  | _=>none
 | .agg cs,d,g=>match d with
  | .agg ds=>Sh.gets fr cs ds g
  | _=>none
 | .tup cs,d,g=>match d with
  | .tup ds=>Sh.gets fr cs ds g
  | _=>none
def Sh.gets (fr:Nat):List Sh->List DV->GS->Option GS
 | [],ds,g=>match ds with
  | []=>some g
  | _::_=>none
 | s::ss,ds,g=>match ds with
  | []=>none
  | d::ds=>match s.get fr d g with
   | some g=>Sh.gets fr ss ds g
   | none=>none
end
mutual
def Sh.n:Sh->Nat
 | .h _=>1
 | .st _=>1
 | .k _=>0
 | .ptr _ _=>0
 | .rww _ _=>0
 | .rwf _ _=>2
 | .fn _ cs=>Sh.ns cs
 | .iface _ s=>s.n
 | .agg cs=>Sh.ns cs
 | .tup cs=>Sh.ns cs
def Sh.ns:List Sh->Nat
 | []=>0
 | s::ss=>s.n+Sh.ns ss
end
mutual
def Sh.hs:Sh->List ET
 | .h t=>[t]
 | .st t=>[t]
 | .k _=>[]
 | .ptr _ _=>[]
 | .rww _ _=>[]
 | .rwf _ _=>[.tn,.tn]
 | .fn _ cs=>Sh.hss cs
 | .iface _ s=>s.hs
 | .agg cs=>Sh.hss cs
 | .tup cs=>Sh.hss cs
def Sh.hss:List Sh->List ET
 | []=>[]
 | s::ss=>s.hs++Sh.hss ss
end
def vm:List DV->DV
 | [d]=>d
 | _=>.dead
def JW:List TV->Nat
 | ⟨.tn,n⟩::_=>n
 | _=>0
mutual
def Sh.mk (len:Nat->Nat):Sh->List TV->DV×List TV
 | .h _,vs=>match vs with
  | ⟨t,x⟩::r=>(vm (t.cells x),r)
  | []=>(.dead,[])
 | .st _,vs=>match vs with
  | ⟨t,x⟩::r=>(.agg (t.cells x),r)
  | []=>(.dead,[])
 | .k c,vs=>(c,vs)
 | .ptr l o,vs=>(.ptr l o,vs)
 | .rww l sz,vs=>(.rw l sz 0 (len l) none true,vs)
 | .rwf l sz,vs=>(.rw l sz (JW vs) (JW (vs.drop 1)) none false,vs.drop 2)
 | .fn f cs,vs=>match Sh.mks len cs vs with
  | (ds,r)=>(.fn f ds,r)
 | .iface t s,vs=>match s.mk len vs with
  | (d,r)=>(.iface t d,r)
 | .agg cs,vs=>match Sh.mks len cs vs with
  | (ds,r)=>(.agg ds,r)
 | .tup cs,vs=>match Sh.mks len cs vs with
  | (ds,r)=>(.tup ds,r)
def Sh.mks (len:Nat->Nat):List Sh->List TV->List DV×List TV
 | [],vs=>([],vs)
 | s::ss,vs=>match s.mk len vs with
  | (d,r)=>match Sh.mks len ss r with
   | (ds,r')=>(d::ds,r')
end
def ym (τ:Nat->Nat) (S:Nat->Bool) (g:GS):Prop:=∀p∈g.m,τ p.1=p.2/\S p.1=true
def GS.Sub (g g':GS):Prop:=(∀p∈g.m,p∈g'.m)/\(∀p∈g.q,p∈g'.q)
theorem GS.Sub.refl (g:GS):g.Sub g:=⟨fun _ h=>h,fun _ h=>h⟩
theorem GS.Sub.trans {a b c:GS} (h:a.Sub b) (h':b.Sub c):a.Sub c:=⟨fun p k=>h'.1 p (h.1 p k),fun p k=>h'.2 p (h.2 p k)⟩
theorem od {g g':GS} {l l':Nat} (h:g.lab l l'=some g'):g'.vs=g.vs/\g'.q=g.q/\(∀p∈g.m,p∈g'.m)/\(l,l')∈g'.m:=by
 unfold GS.lab at h
 split at h
 ·rename_i x hx
  split at h
  ·rename_i e;simp at h;subst h;subst e
   exact ⟨rfl,rfl,fun _ h=>h,ai hx⟩
  ·simp at h
 ·simp at h;subst h
  exact ⟨rfl,rfl,fun p hp=>List.mem_cons_of_mem _ hp,by simp⟩
def Me (d:DV) (g g':GS) (n:Nat) (mk:(Nat->Nat)->List TV->DV×List TV):Prop:=
 g.Sub g'/\∃xs,g'.vs=g.vs++xs/\xs.length=n/\∀len rest τ S,ym τ S g'->(∀p∈g'.q,p.2=len p.1)->(mk len (xs++rest)).2=rest/\Ren τ S d.pv (mk len (xs++rest)).1.pv/\(mk len (xs++rest)).1.ok
def KU (ds:List DV) (g g':GS) (n:Nat) (mk:(Nat->Nat)->List TV->List DV×List TV):Prop:=
 g.Sub g'/\∃xs,g'.vs=g.vs++xs/\xs.length=n/\∀len rest τ S,ym τ S g'->(∀p∈g'.q,p.2=len p.1)->(mk len (xs++rest)).2=rest/\RenC τ S (DV.pvs ds) (DV.pvs (mk len (xs++rest)).1)/\DV.oks (mk len (xs++rest)).1
def Sh.mk' (s:Sh):(Nat->Nat)->List TV->DV×List TV:=fun len vs=>s.mk len vs
theorem Ar {t:ET} {d:DV} {x:t.T} {τ:Nat->Nat} {S:Nat->Bool} (h:t.one [d]=some x):Ren τ S d.pv (vm (t.cells x)).pv/\(vm (t.cells x)).ok:=by
 unfold ET.one at h
 split at h
 ·rename_i y hy
  simp at h;subst h
  cases t with
  | ti k=>obtain ⟨d',e,h1⟩:=aS hy;simp at e;subst e;obtain rfl:=yh h1;exact ⟨.pure rfl,trivial⟩
  | tu=>obtain ⟨d',e,h1⟩:=aS hy;simp at e;subst e;rw [A2 h1];exact ⟨.pure rfl,trivial⟩
  | tb=>obtain ⟨d',e,h1⟩:=aS hy;simp at e;subst e;obtain rfl:=A7 h1;exact ⟨.pure rfl,trivial⟩
  | ts=>obtain ⟨d',e,h1⟩:=aS hy;simp at e;subst e;obtain rfl:=A3 h1;exact ⟨.pure rfl,trivial⟩
  | tn=>simp [ET.un] at hy
  | tl t=>
   obtain ⟨d',e,h1⟩:=aS hy;simp at e;subst e
   rcases A4 h1 with ⟨rfl,rfl⟩ | rfl
   ·exact ⟨.nilsRo,trivial⟩
   ·exact ⟨.pure (by simp [pureF,DV.pv,em]),trivial⟩
  | tf q t=>
   obtain ⟨d',e,h1⟩:=aS hy;simp at e;subst e
   rcases A6 h1 with ⟨rfl,rfl⟩ | rfl
   ·exact ⟨.nilsFs,trivial⟩
   ·exact ⟨.pure (by simp [pureF,DV.pv,em]),trivial⟩
  | te T=>obtain ⟨d',e,h1⟩:=aS hy;simp at e;subst e;exact ⟨EZ h1,trivial⟩
  | to T t=>obtain ⟨d',e,h1⟩:=aS hy;simp at e;subst e;exact ⟨EY h1,trivial⟩
  | tq t=>obtain ⟨d',e,h1⟩:=aS hy;simp at e;subst e;exact ⟨EX h1,trivial⟩
  | tk fs=>obtain ⟨d',e,h1⟩:=aS hy;simp at e;subst e;rw [D2 h1];exact ⟨.pure (pK _ _),trivial⟩
  | tp a c=>
   have h1:=(Gw (.tp a c) hy)
   obtain ⟨ds,e,h2⟩:=h1
   have h3:=h2.1
   have h4:=a.sz_pos
   have h5:=c.sz_pos
   rw [(el (.tp a c)).hsz,jg,aB] at h3
   have h6:ds.length=1:=by simpa using (congrArg List.length e).symm
   rw [h6] at h3
   simp only [ET.sz] at h3
   omega
 ·simp at h
mutual
theorem uH (fr:Nat):∀(s:Sh) {d:DV} {g g':GS},s.get fr d g=some g'->Me d g g' s.n s.mk'
 | .h t,d,g,g',h=>by
  simp only [Sh.get] at h
  split at h
  ·rename_i x hx
   simp at h;subst h
   exact ⟨.refl _,[⟨t,x⟩],rfl,rfl,fun len rest τ S _ _=>⟨rfl,Ar hx⟩⟩
  ·simp at h
 | .st t,d,g,g',h=>by
  simp only [Sh.get] at h
  split at h
  ·rename_i ds
   split at h
   ·rename_i x hx
    simp at h;subst h
    refine ⟨.refl _,[⟨t,x⟩],rfl,rfl,fun len rest τ S _ _=>⟨rfl,?_,fS t x⟩⟩
    unfold ET.one at hx
    split at hx
    ·rename_i y hy
     simp at hx;subst hx
     obtain ⟨ds',e,hr⟩:=Ad (τ:=τ) (S:=S) t hy
     rw [List.append_nil] at e;subst e
     simp only [Sh.mk',Sh.mk,List.cons_append,DV.pv]
     rw [kM]
     exact .agg hr.get.1 hr.get.2
    ·simp at hx
   ·simp at h
  ·simp at h
 | .k c,d,g,g',h=>by
  simp only [Sh.get] at h
  split at h
  ·rename_i hc
   simp at h;subst h
   obtain ⟨rfl,h1,h2⟩:=yd hc
   exact ⟨.refl _,[],by simp,rfl,fun len rest τ S _ _=>⟨rfl,.pure (IL h1),h2⟩⟩
  ·simp at h
 | .ptr l o,d,g,g',h=>by
  simp only [Sh.get] at h
  split at h
  ·split at h
   ·rename_i e;subst e
    obtain ⟨h1,h2,h3,h4⟩:=od h
    exact ⟨⟨h3,fun p hp=>h2▸hp⟩,[],by simp [h1],rfl,fun len rest τ S hm _=>⟨rfl,.ptr (hm _ h4).2 (hm _ h4).1,trivial⟩⟩
   ·simp at h
  ·simp at h
 | .rww l sz,d,g,g',h=>by
  simp only [Sh.get] at h
  split at h
  ·rename_i l' sz' off n co w
   split at h
   ·rename_i e;obtain ⟨rfl,rfl⟩:=e
    split at h
    ·rename_i g1 hg
     simp at h;subst h
     obtain ⟨h1,h2,h3,h4⟩:=od hg
     refine ⟨⟨h3,fun p hp=>List.mem_cons_of_mem _ (h2▸hp)⟩,[],by simp [h1],rfl,fun len rest τ S hm hq=>⟨rfl,?_,trivial⟩⟩
     have e:=hq (l,n) (by simp)
     simp only [Sh.mk',Sh.mk,DV.pv,List.nil_append]
     rw [<-e]
     exact .rwCo (hm _ h4).2 (hm _ h4).1
    ·simp at h
   ·simp at h
  ·split at h
   ·rename_i g1 hg
    simp at h;subst h
    obtain ⟨h1,h2,h3,h4⟩:=od hg
    refine ⟨⟨h3,fun p hp=>List.mem_cons_of_mem _ (h2▸hp)⟩,[],by simp [h1],rfl,fun len rest τ S hm hq=>⟨rfl,?_,trivial⟩⟩
    have e:=hq (l,0) (by simp)
    simp only [Sh.mk',Sh.mk,DV.pv,List.nil_append]
    rw [<-e]
    simp only [Nat.zero_mul]
    exact .nilsRw (hm _ h4).2
   ·simp at h
  ·simp at h
 | .rwf l sz,d,g,g',h=>by
  simp only [Sh.get] at h
  split at h
  ·rename_i l' sz' off n co w
   split at h
   ·rename_i e;subst e
    split at h
    ·rename_i g1 hg
     simp at h;subst h
     obtain ⟨h1,h2,h3,h4⟩:=od hg
     refine ⟨⟨h3,fun p hp=>h2▸hp⟩,[⟨.tn,off⟩,⟨.tn,n⟩],by simp [GS.put,h1],rfl,fun len rest τ S hm hq=>⟨rfl,?_,trivial⟩⟩
     exact .rwCo (hm _ h4).2 (hm _ h4).1
    ·simp at h
   ·simp at h
  ·simp at h
 | .fn f cs,d,g,g',h=>by
  simp only [Sh.get] at h
  split at h
  ·rename_i f' ds
   split at h
   ·rename_i e;subst e
    obtain ⟨h1,xs,h2,h3,h4⟩:=lN fr cs h
    refine ⟨h1,xs,h2,h3,fun len rest τ S hm hq=>?_⟩
    obtain ⟨e1,e2,e3⟩:=h4 len rest τ S hm hq
    exact ⟨e1,.fn e2.get.1 e2.get.2,e3⟩
   ·simp at h
  ·simp at h
 | .iface t s,d,g,g',h=>by
  simp only [Sh.get] at h
  split at h
  ·rename_i t' d'
   split at h
   ·rename_i e;subst e
    obtain ⟨h1,xs,h2,h3,h4⟩:=uH fr s h
    refine ⟨h1,xs,h2,h3,fun len rest τ S hm hq=>?_⟩
    obtain ⟨e1,e2,e3⟩:=h4 len rest τ S hm hq
    exact ⟨e1,.iface e2,e3⟩
   ·simp at h
  ·simp at h
 | .agg cs,d,g,g',h=>by
  simp only [Sh.get] at h
  split at h
  ·rename_i ds
   obtain ⟨h1,xs,h2,h3,h4⟩:=lN fr cs h
   refine ⟨h1,xs,h2,h3,fun len rest τ S hm hq=>?_⟩
   obtain ⟨e1,e2,e3⟩:=h4 len rest τ S hm hq
   exact ⟨e1,.agg e2.get.1 e2.get.2,e3⟩
  ·simp at h
 | .tup cs,d,g,g',h=>by
  simp only [Sh.get] at h
  split at h
  ·rename_i ds
   obtain ⟨h1,xs,h2,h3,h4⟩:=lN fr cs h
   refine ⟨h1,xs,h2,h3,fun len rest τ S hm hq=>?_⟩
   obtain ⟨e1,e2,e3⟩:=h4 len rest τ S hm hq
   exact ⟨e1,.tup e2.get.1 e2.get.2,e3⟩
  ·simp at h
theorem lN (fr:Nat):∀(ss:List Sh) {ds:List DV} {g g':GS},Sh.gets fr ss ds g=some g'->KU ds g g' (Sh.ns ss) (fun len vs=>Sh.mks len ss vs)
 | [],ds,g,g',h=>by
  simp only [Sh.gets] at h
  split at h
  ·simp at h;subst h
   exact ⟨.refl _,[],by simp,rfl,fun len rest τ S _ _=>⟨rfl,.nil,trivial⟩⟩
  ·simp at h
 | s::ss,ds,g,g',h=>by
  simp only [Sh.gets] at h
  split at h
  ·simp at h
  ·rename_i d ds
   split at h
   ·rename_i g1 h1
    obtain ⟨a1,xs,a2,a3,a4⟩:=uH fr s h1
    obtain ⟨b1,ys,b2,b3,b4⟩:=lN fr ss h
    refine ⟨a1.trans b1,xs++ys,by rw [b2,a2,List.append_assoc],by simp [a3,b3,Sh.ns],fun len rest τ S hm hq=>?_⟩
    obtain ⟨c1,c2,c3⟩:=a4 len (ys++rest) τ S (fun p hp=>hm p (b1.1 p hp)) (fun p hp=>hq p (b1.2 p hp))
    obtain ⟨d1,d2,d3⟩:=b4 len rest τ S hm hq
    simp only [Sh.mks,List.append_assoc]
    simp only [Sh.mk'] at c1 c2 c3
    rw [c1]
    exact ⟨d1,.cons c2 d2,c3,d3⟩
   ·simp at h
end
end Go.SH
namespace Go.SH
variable [SentA]
inductive LSh where
 | ls (t:ET)
 | cs (l:List Sh)
structure Tm where
 slots:List (Nat×Sh)
 kill:List Nat
 labs:List (Nat×LSh)
 cups:List (Nat×Nat×Sh)
 killL:List Nat
@[reducible] def HT:List ET->Type
 | []=>Unit
 | [t]=>t.T
 | t::u::r=>t.T×HT (u::r)
def ab:(ts:List ET)->HT ts->List TV
 | [],_=>[]
 | [t],v=>[⟨t,v⟩]
 | t::u::r,v=>⟨t,v.1⟩::ab (u::r) v.2
def EU (t:ET):TV->Option t.T
 | ⟨t',x⟩=>if h:t'=t then some (h▸x) else none
theorem CC {t:ET} {x:TV} {y:t.T} (h:EU t x=some y):x=⟨t,y⟩:=by
 obtain ⟨t',x⟩:=x
 simp only [EU] at h
 split at h
 ·rename_i e;subst e;simp at h;subst h;rfl
 ·simp at h
def pack:(ts:List ET)->List TV->Option (HT ts)
 | [],vs=>match vs with
  | []=>some ()
  | _::_=>none
 | [t],vs=>match vs with
  | [x]=>EU t x
  | _=>none
 | t::u::r,vs=>match vs with
  | []=>none
  | x::vs=>match EU t x with
   | some y=>match pack (u::r) vs with
    | some z=>some (y,z)
    | none=>none
   | none=>none
theorem sK:∀{ts:List ET} {vs:List TV} {v:HT ts},pack ts vs=some v->ab ts v=vs
 | [],vs,v,h=>by
  simp only [pack] at h
  split at h
  ·rfl
  ·simp at h
 | [t],vs,v,h=>by
  simp only [pack] at h
  split at h
  ·rename_i x;rw [CC h];rfl
  ·simp at h
 | t::u::r,vs,v,h=>by
  simp only [pack] at h
  split at h
  ·simp at h
  ·rename_i x vs
   split at h
   ·rename_i y hy
    split at h
    ·rename_i z hz
     simp at h;subst h
     rw [CC hy]
     show (⟨t,y⟩:TV)::ab (u::r) z=_
     rw [sK hz]
    ·simp at h
   ·simp at h
def getS (fr:Nat) (al:DAl):List (Nat×Sh)->GS->Option GS
 | [],g=>some g
 | (t,s)::r,g=>match lget al t with
  | some d=>match s.get fr d g with
   | some g=>getS fr al r g
   | none=>none
  | none=>none
def nS:List (Nat×Sh)->Nat
 | []=>0
 | (_,s)::r=>s.n+nS r
def mkS (len:Nat->Nat):List (Nat×Sh)->List TV->DAl×List TV
 | [],vs=>([],vs)
 | (t,s)::r,vs=>match s.mk len vs with
  | (d,vs)=>match mkS len r vs with
   | (ds,vs)=>((t,d)::ds,vs)
def LSh.get (fr:Nat):LSh->Option DC->GS->Option GS
 | .ls t,c,g=>match c with
  | some (.ls t' l)=>if h:t'=t then some (g.put ⟨.tl t,(h▸l:List t.T)⟩) else none
  | some (.cs ds)=>match t.all ds.length ds with
   | some l=>some (g.put ⟨.tl t,l⟩)
   | none=>none
  | some .gone=>none
  | none=>some (g.put ⟨.tl t,([]:List t.T)⟩)
 | .cs ss,c,g=>match c with
  | some (.cs ds)=>Sh.gets fr ss ds g
  | _=>none
def LSh.n:LSh->Nat
 | .ls _=>1
 | .cs ss=>Sh.ns ss
def LSh.mk (len:Nat->Nat):LSh->List TV->DC×List TV
 | .ls t,vs=>match vs with
  | ⟨.tl t',l⟩::r=>(.ls t' l,r)
  | _=>(.gone,[])
 | .cs ss,vs=>match Sh.mks len ss vs with
  | (ds,r)=>(.cs ds,r)
def getL (fr:Nat) (L:DLb):List (Nat×LSh)->GS->Option GS
 | [],g=>some g
 | (l,s)::r,g=>match g.lab l (lk g.m l) with
  | some g'=>match s.get fr (lget L (lk g.m l)) g' with
   | some g=>getL fr L r g
   | none=>none
  | none=>none
def mkL (len:Nat->Nat):List (Nat×LSh)->List TV->DLb×List TV
 | [],vs=>([],vs)
 | (l,s)::r,vs=>match s.mk len vs with
  | (c,vs)=>match mkL len r vs with
   | (cs,vs)=>((l,c)::cs,vs)
def lenT:List (Nat×LSh)->List TV->List (Nat×Nat)
 | [],_=>[]
 | (l,.ls _)::r,vs=>match vs with
  | ⟨.tl _,x⟩::vs=>(l,x.length)::lenT r vs
  | _=>[]
 | (_,.cs ss)::r,vs=>lenT r (vs.drop (Sh.ns ss))
def lenC:Option DC->Nat
 | some (.ls _ l)=>l.length
 | _=>0
def lenF (tab:List (Nat×Nat)) (L:DLb) (l:Nat):Nat:=match lget tab l with
 | some n=>n
 | none=>lenC (lget L l)
def getC (fr:Nat) (L:DLb):List (Nat×Nat×Sh)->GS->Option GS
 | [],g=>some g
 | (l,i,s)::r,g=>match lget L l with
  | some (.cs cs)=>match cs[i]? with
   | some d=>match s.get fr d g with
    | some g=>getC fr L r g
    | none=>none
   | none=>none
  | _=>none
def mkC (len:Nat->Nat):List (Nat×Nat×Sh)->List TV->List (Nat×Nat×DV)×List TV
 | [],vs=>([],vs)
 | (l,i,s)::r,vs=>match s.mk len vs with
  | (d,vs)=>match mkC len r vs with
   | (ds,vs)=>((l,i,d)::ds,vs)
def hsS:List (Nat×Sh)->List ET
 | []=>[]
 | (_,s)::r=>s.hs++hsS r
def hsL:List (Nat×LSh)->List ET
 | []=>[]
 | (_,.ls t)::r=>.tl t::hsL r
 | (_,.cs ss)::r=>Sh.hss ss++hsL r
def hsC:List (Nat×Nat×Sh)->List ET
 | []=>[]
 | (_,_,s)::r=>s.hs++hsC r
def Tm.hs (tm:Tm):List ET:=hsS tm.slots++hsL tm.labs++hsC tm.cups
abbrev Tm.T (tm:Tm):Type:=HT tm.hs
def ded {α:Type}:List Nat->List (Nat×α)->List (Nat×α)
 | _,[]=>[]
 | s,(t,d)::r=>match s.elem t with
  | true=>ded s r
  | false=>(t,d)::ded (t::s) r
theorem kc {α:Type}:∀{l:List (Nat×α)} {s:List Nat} {p:Nat×α},p∈ded s l->p.1 ∉ s/\lget l p.1=some p.2
 | [],s,p,h=>by simp [ded] at h
 | (t,d)::r,s,p,h=>by
  simp only [ded] at h
  split at h
  ·rename_i e
   obtain ⟨h1,h2⟩:=kc h
   have:t∈s:=by simpa using e
   refine ⟨h1,?_⟩
   rw [lget,if_neg (fun e2=>h1 (by rw [<-e2];exact this))];exact h2
  ·rename_i e
   rcases List.mem_cons.1 h with rfl | h
   ·exact ⟨by simpa using e,by simp [lget]⟩
   ·obtain ⟨h1,h2⟩:=kc h
    simp at h1
    exact ⟨h1.2,by rw [lget,if_neg (fun e=>h1.1 e.symm)];exact h2⟩
def cupD (cu:List (Nat×Nat×DV)) (l i:Nat) (d:DV):DV:=match cu with
 | []=>d
 | (l',i',e)::r=>if l'=l/\i'=i then e else cupD r l i d
def cupM (cu:List (Nat×Nat×DV)) (l:Nat):Nat->List DV->List DV
 | _,[]=>[]
 | i,d::r=>cupD cu l i d::cupM cu l (i+1) r
def cupL (cu:List (Nat×Nat×DV)) (kl:List Nat) (l:Nat):DC->DC
 | .cs cs=>match kl.elem l with
  | true=>.gone
  | false=>.cs (cupM cu l 0 cs)
 | c=>match kl.elem l with
  | true=>.gone
  | false=>c
def Tm.appL (tm:Tm) (vs:List TV) (b:St):St:=
 let vl:=vs.drop (nS tm.slots)
 let len:=lenF (lenT tm.labs vl) b.L
 let sl:=mkS len tm.slots vs
 let lb:=mkL len tm.labs sl.2
 let cu:=mkC len tm.cups lb.2
 {al:=sl.1++ded (tm.slots.map (·.1)++tm.kill) b.al
  L:=lb.1++(ded (tm.labs.map (·.1)) b.L).map fun p=>(p.1,cupL cu.1 tm.killL p.1 p.2)
  ds:=tm.slots.map (·.1)++tm.kill++b.ds
  dl:=tm.labs.map (fun p=>(p.1,none))++tm.cups.map (fun p=>(p.1,some p.2.1))++tm.killL.map (fun l=>(l,none))++b.dl }
def Tm.app (tm:Tm) (v:tm.T) (b:St):St:=tm.appL (ab tm.hs v) b
mutual
def DV.labs (f:Nat->Bool):DV->Bool
 | .ptr l _=>f l
 | .lp l _ _ _=>f l
 | .rw l _ _ _ _ _=>f l
 | .fn _ cs=>DV.labsL f cs
 | .iface _ v=>v.labs f
 | .agg cs=>DV.labsL f cs
 | .tup cs=>DV.labsL f cs
 | .yl _ cs=>f ylab&&DV.labsL f cs
 | _=>true
def DV.labsL (f:Nat->Bool):List DV->Bool
 | []=>true
 | d::r=>d.labs f&&DV.labsL f r
end
mutual
theorem tg {τ:Nat->Nat} {S:Nat->Bool} {f:Nat->Bool} (hf:∀l,f l=true->τ l=l/\S l=true):∀{d:DV},d.labs f=true->Ren τ S d.pv d.pv
 | .dead,_=>.pure rfl
 | .int _ _,_=>.pure rfl
 | .by _,_=>.pure rfl
 | .bool _,_=>.pure rfl
 | .str _,_=>.pure rfl
 | .nilp,_=>.pure rfl
 | .nils,_=>.pure rfl
 | .nilf,_=>.pure rfl
 | .nili,_=>.pure rfl
 | .ev _ _,_=>.pure rfl
 | .oi T _ x,_=>.pure (qd T x)
 | .oq _ x,_=>.pure (qc x)
 | .fk fs i,_=>.pure (pK fs i)
 | .ptr l _,h=>.ptr (hf l h).2 (hf l h).1
 | .lp l _ _ _,h=>.ptr (hf l h).2 (hf l h).1
 | .ep _ _ _ _ _,_=>.pure (by simp [pureF,DV.pv,em])
 | .gp _ _,_=>.pure (by simp [pureF,DV.pv,em])
 | .sl _ _,_=>.pure (by simp [pureF,DV.pv,em])
 | .fsl _ _ _,_=>.pure (by simp [pureF,DV.pv,em])
 | .rw l _ _ _ _ _,h=>.rw (hf l h).2 (hf l h).1
 | .fn _ cs,h=>by have:=(nu hf (ds:=cs) h).get;exact .fn this.1 this.2
 | .iface _ v,h=>.iface (tg hf (d:=v) h)
 | .agg cs,h=>by have:=(nu hf (ds:=cs) h).get;exact .agg this.1 this.2
 | .tup cs,h=>by have:=(nu hf (ds:=cs) h).get;exact .tup this.1 this.2
 | .yl i cs,h=>by
  simp only [DV.labs,Bool.and_eq_true] at h
  have:=(nu hf (ds:=cs) h.2).get;exact .yld (hf _ h.1).2 this.1 this.2
theorem nu {τ:Nat->Nat} {S:Nat->Bool} {f:Nat->Bool} (hf:∀l,f l=true->τ l=l/\S l=true):∀{ds:List DV},DV.labsL f ds=true->RenC τ S (DV.pvs ds) (DV.pvs ds)
 | [],_=>.nil
 | d::r,h=>by
  simp only [DV.labsL,Bool.and_eq_true] at h
  exact .cons (tg hf h.1) (nu hf h.2)
end
def DM (f:Nat->Bool):DC->Bool
 | .cs cs=>DV.labsL f cs
 | _=>true
def reqs {R:Type} (len:Nat->Nat):List (Nat×Nat)->Option R->Option R
 | [],k=>k
 | (l,n)::r,k=>req (n=len l) (reqs len r k)
theorem wh {R:Type} {len:Nat->Nat} {v:R}:∀{q:List (Nat×Nat)} {k:Option R},reqs len q k=some v->(∀p∈q,p.2=len p.1)/\k=some v
 | [],k,h=>⟨by simp,h⟩
 | (l,n)::r,k,h=>by
  obtain ⟨h1,h2⟩:=cR h
  obtain ⟨h3,h4⟩:=wh h2
  exact ⟨fun p hp=>by rcases List.mem_cons.1 hp with rfl | hp;exact h1;exact h3 p hp,h4⟩
def frOf {α:Type}:List (Nat×α)->Nat
 | []=>0
 | (l,_)::r=>max (l+1) (frOf r)
theorem wt {α:Type}:∀{L:List (Nat×α)} {l:Nat},frOf L<=l->lget L l=none
 | [],_,_=>rfl
 | (k,x)::r,l,h=>by
  simp only [frOf] at h
  rw [lget,if_neg (by omega)]
  exact wt (by omega)
def AL (tm:Tm) (b s:St):Bool:=
 s.ds.all (fun t=>(tm.slots.map (·.1)).elem t||tm.kill.elem t) &&
 s.dl.all (fun p=>(tm.labs.map (·.1)).elem p.1||tm.killL.elem p.1 || !(b.L.map (·.1)).elem p.1||match p.2 with
  | some i=>(match lget b.L p.1 with | some (.cs _)=>true | _=>false)&&tm.cups.any fun c=>decide (c.1=p.1)&&decide (c.2.1=i)
  | none=>false)
def idOK (m:List (Nat×Nat)) (L:DLb) (l:Nat):Bool:=decide (lk m l=l)&&(L.map (·.1)).elem l
def vw:DC->Bool
 | .gone=>true
 | _=>false
def rD:List (Nat×Nat)->Bool
 | []=>true
 | (l,_)::r=>!(r.map (·.1)).elem l&&rD r
def uv (fr:Nat) (L:DLb) (cups:List (Nat×Nat×Sh)) (g:GS):GS:=match getC fr L cups g with
 | some g'=>{ g with m:=g'.m }
 | none=>g
def Tm.leaf (tm:Tm) (ks:List Nat) (b s:St):Option tm.T:=
 match getS (frOf s.L) s.al tm.slots ⟨[],[],[]⟩ with
 | some g=>match getL (frOf s.L) s.L tm.labs (uv (frOf s.L) s.L tm.cups g) with
  | some g=>match getC (frOf s.L) s.L tm.cups g with
   | some g=>
    let s':=tm.appL g.vs b
    if AL tm b s=true/\(ded (tm.slots.map (·.1)++tm.kill) b.al).all (fun p=>p.2.labs (idOK g.m s'.L))=true /\
      (ded (tm.labs.map (·.1)) b.L).all (fun p=>idOK g.m s'.L p.1&&DM (idOK g.m s'.L) p.2)=true/\tm.cups.all (fun c=>idOK g.m s'.L c.1 && !tm.killL.elem c.1 && !(tm.labs.map (·.1)).elem c.1)=true /\
      (g.m.all fun p=>(s'.L.map (·.1)).elem p.1)=true/\ks.all (fun l=>idOK g.m s'.L l)=true /\
      (s'.L.all fun p=>s'.L.all fun q=>vw p.2||vw q.2||decide (lk g.m p.1=lk g.m q.1->p.1=q.1))=true/\rD g.m=true then
     reqs (lenF (lenT tm.labs (g.vs.drop (nS tm.slots))) b.L) g.q (pack tm.hs g.vs) else none
   | none=>none
  | none=>none
 | none=>none
end Go.SH
namespace Go.SH
variable [SentA]
theorem E2 {τ:Nat->Nat} {S:Nat->Bool} {t:ET}:∀{f:Nat} {cs:List DV} {l:List t.T},t.all f cs=some l->RenC τ S (DV.pvs cs) (fl (el t) l)
 | _,[],l,h=>by simp [ET.all] at h;subst h;exact .nil
 | 0,_::_,l,h=>by simp [ET.all] at h
 | f+1,c::cs,l,h=>by
  simp only [ET.all] at h
  split at h
  ·rename_i x r hx
   split at h
   ·rename_i l' hl
    simp at h;subst h
    obtain ⟨ds,e1,e2⟩:=Ad t hx
    rw [e1,bO,cj]
    exact e2.append (E2 hl)
   ·simp at h
  ·simp at h
structure Fin (τ:Nat->Nat) (S:Nat->Bool) (len:Nat->Nat) (g:GS):Prop where
 m:ym τ S g
 q:∀p∈g.q,p.2=len p.1
theorem Fin.sub {τ:Nat->Nat} {S:Nat->Bool} {len:Nat->Nat} {g g':GS} (h:Fin τ S len g') (hs:g.Sub g'):Fin τ S len g:=⟨fun p hp=>h.m p (hs.1 p hp),fun p hp=>h.q p (hs.2 p hp)⟩
theorem EJ {fr:Nat} {al:DAl}:∀{sl:List (Nat×Sh)} {g g':GS},getS fr al sl g=some g'->g.Sub g'/\∃xs,g'.vs=g.vs++xs/\xs.length=nS sl/\∀{len:Nat->Nat} (rest:List TV) {τ:Nat->Nat} {S:Nat->Bool},Fin τ S len g' ->
  (mkS len sl (xs++rest)).2=rest/\∀p∈(mkS len sl (xs++rest)).1,∃d,lget al p.1=some d/\Ren τ S d.pv p.2.pv/\p.2.ok
 | [],g,g',h=>by simp [getS] at h;subst h;exact ⟨.refl _,[],by simp,rfl,fun rest _ _ _=>⟨rfl,by simp [mkS]⟩⟩
 | (t,s)::r,g,g',h=>by
  simp only [getS] at h
  split at h
  ·rename_i d hd
   split at h
   ·rename_i g1 h1
    obtain ⟨a1,xs,a2,a3,a4⟩:=uH fr s h1
    obtain ⟨b1,ys,b2,b3,b4⟩:=EJ h
    refine ⟨a1.trans b1,xs++ys,by rw [b2,a2,List.append_assoc],by simp [nS,a3,b3],fun {len} rest {τ S} hf=>?_⟩
    obtain ⟨c1,c2,c3⟩:=a4 len (ys++rest) τ S (hf.sub b1).m (hf.sub b1).q
    obtain ⟨d1,d2⟩:=b4 rest hf
    simp only [Sh.mk'] at c1 c2 c3
    simp only [mkS,List.append_assoc,c1]
    refine ⟨d1,fun p hp=>?_⟩
    rcases List.mem_cons.1 hp with rfl | hp
    ·exact ⟨d,hd,c2,c3⟩
    ·exact d2 p hp
   ·simp at h
  ·simp at h
theorem BW (len:Nat->Nat):∀(sl:List (Nat×Sh)) (vs:List TV),(mkS len sl vs).1.map (·.1)=sl.map (·.1)
 | [],_=>rfl
 | (t,s)::r,vs=>by simp only [mkS,List.map_cons];rw [BW len r]
def LabR (τ:Nat->Nat) (S:Nat->Bool) (L:DLb) (l:Nat) (c:DC):Prop:=
 c.ok/\∃ys,c.pv=some ys/\((∃xs,lget (dlb L) (τ l)=some (some xs)/\RenC τ S xs ys)\/(lget (dlb L) (τ l)=none/\ys=[]))
theorem Aw {L:DLb} {l:Nat} {c:DC} (h:lget L l=some c):lget (dlb L) l=some c.pv:=by rw [an,h];rfl
theorem H9 {fr:Nat} {L:DLb}:∀{s:LSh} {l:Nat} {g g':GS},s.get fr (lget L l) g=some g'->g.Sub g'/\∃xs,g'.vs=g.vs++xs/\xs.length=s.n/\∀{len:Nat->Nat} (rest:List TV) {τ:Nat->Nat} {S:Nat->Bool} {k:Nat},Fin τ S len g'->τ k=l ->
  (s.mk len (xs++rest)).2=rest/\LabR τ S L k (s.mk len (xs++rest)).1
 | .ls t,l,g,g',h=>by
  simp only [LSh.get] at h
  split at h
  ·rename_i t' ls hl
   split at h
   ·rename_i e;subst e
    simp at h;subst h
    refine ⟨⟨fun _ h=>h,fun _ h=>h⟩,[⟨.tl t',ls⟩],rfl,rfl,fun {len} rest {τ S k} hf hk=>⟨rfl,trivial,_,rfl,.inl ⟨_,by rw [hk];exact Aw hl,.pure (em _)⟩⟩⟩
   ·simp at h
  ·rename_i cs hl
   split at h
   ·rename_i ls hal
    simp at h;subst h
    refine ⟨⟨fun _ h=>h,fun _ h=>h⟩,[⟨.tl t,ls⟩],rfl,rfl,fun {len} rest {τ S k} hf hk=>⟨rfl,trivial,_,rfl,.inl ⟨_,by rw [hk];exact Aw hl,E2 hal⟩⟩⟩
   ·simp at h
  ·simp at h
  ·rename_i hl
   simp at h;subst h
   refine ⟨⟨fun _ h=>h,fun _ h=>h⟩,[⟨.tl t,[]⟩],rfl,rfl,fun {len} rest {τ S k} hf hk=>⟨rfl,trivial,_,rfl,.inr ⟨by rw [hk,an,hl];rfl,rfl⟩⟩⟩
 | .cs ss,l,g,g',h=>by
  simp only [LSh.get] at h
  split at h
  ·rename_i ds hl
   obtain ⟨a1,xs,a2,a3,a4⟩:=lN fr ss h
   refine ⟨a1,xs,a2,a3,fun {len} rest {τ S k} hf hk=>?_⟩
   obtain ⟨c1,c2,c3⟩:=a4 len rest τ S hf.m hf.q
   exact ⟨c1,c3,_,rfl,.inl ⟨_,by rw [hk];exact Aw hl,c2⟩⟩
  ·simp at h
theorem wq {fr:Nat} {L:DLb}:∀{sl:List (Nat×LSh)} {g g':GS},getL fr L sl g=some g'->g.Sub g'/\∃xs,g'.vs=g.vs++xs/\∀{len:Nat->Nat} (rest:List TV) {τ:Nat->Nat} {S:Nat->Bool},Fin τ S len g' ->
  (mkL len sl (xs++rest)).2=rest/\∀p∈(mkL len sl (xs++rest)).1,LabR τ S L p.1 p.2
 | [],g,g',h=>by simp [getL] at h;subst h;exact ⟨.refl _,[],by simp,fun rest _ _ _=>⟨rfl,by simp [mkL]⟩⟩
 | (l,s)::r,g,g',h=>by
  simp only [getL] at h
  split at h
  ·rename_i g0 h0
   split at h
   ·rename_i g1 h1
    obtain ⟨l1,l2,l3,l4⟩:=od h0
    obtain ⟨a1,xs,a2,a3,a4⟩:=H9 h1
    obtain ⟨b1,ys,b2,b4⟩:=wq h
    refine ⟨⟨fun p hp=>b1.1 p (a1.1 p (l3 p hp)),fun p hp=>b1.2 p (a1.2 p (l2▸hp))⟩,xs++ys,by rw [b2,a2,l1,List.append_assoc],fun {len} rest {τ S} hf=>?_⟩
    have hf1:=hf.sub b1
    have hf0:=hf1.sub a1
    obtain ⟨c1,c2⟩:=a4 (ys++rest) hf1 (hf0.m _ l4).1
    obtain ⟨d1,d2⟩:=b4 rest hf
    simp only [mkL,List.append_assoc,c1]
    refine ⟨d1,fun p hp=>?_⟩
    rcases List.mem_cons.1 hp with rfl | hp
    ·simp only
     have e1:=(hf0.m _ l4).1
     simp only at e1
     obtain ⟨k1,ys',k2,k3⟩:=c2
     exact ⟨k1,ys',k2,k3⟩
    ·exact d2 p hp
   ·simp at h
  ·simp at h
theorem gw (len:Nat->Nat):∀(sl:List (Nat×LSh)) (vs:List TV),(mkL len sl vs).1.map (·.1)=sl.map (·.1)
 | [],_=>rfl
 | (t,s)::r,vs=>by simp only [mkL,List.map_cons];rw [gw len r]
theorem AB {fr:Nat} {L:DLb}:∀{sl:List (Nat×Nat×Sh)} {g g':GS},getC fr L sl g=some g'->g.Sub g'/\∃xs,g'.vs=g.vs++xs/\∀{len:Nat->Nat} (rest:List TV) {τ:Nat->Nat} {S:Nat->Bool},Fin τ S len g' ->
  (mkC len sl (xs++rest)).2=rest/\∀p∈(mkC len sl (xs++rest)).1,∃cs d,lget L p.1=some (.cs cs)/\cs[p.2.1]?=some d/\Ren τ S d.pv p.2.2.pv/\p.2.2.ok
 | [],g,g',h=>by simp [getC] at h;subst h;exact ⟨.refl _,[],by simp,fun rest _ _ _=>⟨rfl,by simp [mkC]⟩⟩
 | (l,i,s)::r,g,g',h=>by
  simp only [getC] at h
  split at h
  ·rename_i cs hl
   split at h
   ·rename_i d hd
    split at h
    ·rename_i g1 h1
     obtain ⟨a1,xs,a2,a3,a4⟩:=uH fr s h1
     obtain ⟨b1,ys,b2,b4⟩:=AB h
     refine ⟨a1.trans b1,xs++ys,by rw [b2,a2,List.append_assoc],fun {len} rest {τ S} hf=>?_⟩
     obtain ⟨c1,c2,c3⟩:=a4 len (ys++rest) τ S (hf.sub b1).m (hf.sub b1).q
     obtain ⟨d1,d2⟩:=b4 rest hf
     simp only [Sh.mk'] at c1 c2 c3
     simp only [mkC,List.append_assoc,c1]
     refine ⟨d1,fun p hp=>?_⟩
     rcases List.mem_cons.1 hp with rfl | hp
     ·exact ⟨cs,d,hl,hd,c2,c3⟩
     ·exact d2 p hp
    ·simp at h
   ·simp at h
  ·simp at h
theorem pw (len:Nat->Nat):∀(sl:List (Nat×Nat×Sh)) (vs:List TV),(mkC len sl vs).1.map (fun c=>(c.1,c.2.1))=sl.map (fun c=>(c.1,c.2.1))
 | [],_=>rfl
 | (t,i,s)::r,vs=>by simp only [mkC,List.map_cons];rw [pw len r]
theorem oy (cu:List (Nat×Nat×DV)) (l i:Nat) (d:DV):(cupD cu l i d=d/\∀c∈cu,¬(c.1=l/\c.2.1=i))\/∃c∈cu,c.1=l/\c.2.1=i/\cupD cu l i d=c.2.2:=by
 induction cu with
 | nil=>exact .inl ⟨rfl,by simp⟩
 | cons c r ih=>
  obtain ⟨l',i',e⟩:=c
  simp only [cupD]
  split
  ·rename_i h;exact .inr ⟨(l',i',e),by simp,h.1,h.2,rfl⟩
  ·rename_i h
   rcases ih with ⟨h1,h2⟩ | ⟨c,h1,h2⟩
   ·refine .inl ⟨h1,fun c hc=>?_⟩
    rcases List.mem_cons.1 hc with rfl | hc
    ·exact h
    ·exact h2 c hc
   ·exact .inr ⟨c,List.mem_cons_of_mem _ h1,h2⟩
theorem kL (cu:List (Nat×Nat×DV)) (l:Nat):∀(ds:List DV) (j i:Nat),(cupM cu l j ds)[i]?=(ds[i]?).map (cupD cu l (j+i))
 | [],_,_=>by simp [cupM]
 | d::r,j,i=>by
  cases i with
  | zero=>simp [cupM]
  | succ i=>simp only [cupM,List.getElem?_cons_succ];rw [kL cu l r,show j+1+i=j+(i+1) from by omega]
theorem tK (cu:List (Nat×Nat×DV)) (l:Nat):∀(ds:List DV) (j:Nat),(cupM cu l j ds).length=ds.length
 | [],_=>rfl
 | d::r,j=>by simp [cupM,tK cu l r]
theorem qr {α:Type}:∀{l:List (Nat×α)} {s:List Nat} {t:Nat},t ∉ s->lget (ded s l) t=lget l t
 | [],_,_,_=>rfl
 | (u,d)::r,s,t,h=>by
  simp only [ded]
  split
  ·rename_i e
   have hu:u∈s:=by simpa using e
   rw [qr h,lget,if_neg (fun e2=>h (by rw [<-e2];exact hu))]
  ·by_cases e:u=t
   ·subst e;simp [lget]
   ·rw [lget,if_neg e,lget,if_neg e]
    exact qr (by simp;exact ⟨fun e2=>e e2.symm,h⟩)
theorem xx {α:Type} (a b:List (Nat×α)) (k:Nat) (h:k ∉ a.map (·.1)):lget (a++b) k=lget b k:=by
 induction a with
 | nil=>rfl
 | cons p r ih=>
  obtain ⟨j,x⟩:=p
  simp only [List.map_cons,List.mem_cons,not_or] at h
  show lget ((j,x)::(r++b)) k=_
  rw [lget,if_neg (fun e=>h.1 e.symm)]
  exact ih h.2
theorem nt {α:Type} {a b:List (Nat×α)} {k:Nat} {x:α} (h:lget (a++b) k=some x):(∃p∈a,p=(k,x))\/(k ∉ a.map (·.1)/\lget b k=some x):=by
 induction a with
 | nil=>exact .inr ⟨by simp,h⟩
 | cons p r ih=>
  obtain ⟨j,y⟩:=p
  have h':lget ((j,y)::(r++b)) k=some x:=h
  rw [lget] at h'
  split at h'
  ·rename_i e;subst e;simp at h';subst h';exact .inl ⟨_,by simp,rfl⟩
  ·rename_i e
   rcases ih h' with ⟨p,hp,e2⟩ | ⟨h1,h2⟩
   ·exact .inl ⟨p,List.mem_cons_of_mem _ hp,e2⟩
   ·exact .inr ⟨by simp;exact ⟨fun e2=>e e2.symm,by simpa using h1⟩,h2⟩
theorem uC {α β:Type} (f:Nat->α->β):∀(l:List (Nat×α)) (k:Nat),lget (l.map fun p=>(p.1,f p.1 p.2)) k=(lget l k).map (f k)
 | [],_=>rfl
 | (j,x)::r,k=>by
  simp only [List.map_cons,lget]
  split
  ·rename_i e;subst e;rfl
  ·exact uC f r k
theorem Jt (tm:Tm) (vs:List TV) (b:St):Up b (tm.appL vs b):=by
 intro b0 h
 refine ⟨fun t ht=>?_,fun l hl=>?_,fun l cs0 hl h0=>?_⟩
 ·simp only [Tm.appL,List.mem_append,not_or] at ht ⊢
  obtain ⟨⟨h1,h2⟩,h3⟩:=ht
  rw [xx _ _ _ (by rw [BW];exact h1),qr (by simp only [List.mem_append,not_or];exact ⟨h1,h2⟩)]
  exact h.sl t h3
 ·simp only [Tm.appL,List.mem_append,not_or] at hl ⊢
  have h1:l ∉ tm.labs.map (·.1):=fun hm=>by
   obtain ⟨p,hp,e⟩:=List.mem_map.1 hm
   exact (hl none).1.1.1 (List.mem_map.2 ⟨p,hp,by rw [e]⟩)
  have h2:l ∉ tm.killL:=fun hm=>(hl none).1.2 (List.mem_map.2 ⟨l,hm,rfl⟩)
  rw [xx _ _ _ (by rw [gw];exact h1),uC,qr h1]
  have h4:=h.lb l fun i=>(hl i).2
  rw [<-h4]
  cases hc:lget b.L l with
  | none=>rfl
  | some c=>
   simp only [Option.map_some]
   congr 1
   have hk:tm.killL.elem l=false:=by simpa using h2
   cases c with
   | gone=>simp only [cupL,hk]
   | ls t x=>simp only [cupL,hk]
   | cs cs=>
    simp only [cupL,hk]
    congr 1
    refine List.ext_getElem? fun i=>?_
    rw [kL]
    cases hi:cs[i]? with
    | none=>rfl
    | some d=>
     simp only [Option.map_some]
     rcases oy _ l (0+i) d with ⟨h5,_⟩ | ⟨c,h5,h6,h7,_⟩
     ·rw [h5]
     ·exfalso
      have:(c.1,c.2.1)∈tm.cups.map (fun c=>(c.1,c.2.1)):=by rw [<-pw];exact List.mem_map.2 ⟨c,h5,rfl⟩
      obtain ⟨c',h8,h9⟩:=List.mem_map.1 this
      simp at h9
      exact (hl (some i)).1.1.2 (List.mem_map.2 ⟨c',h8,by rw [h9.1,h9.2,h6,h7];simp⟩)
 ·simp only [Tm.appL,List.mem_append,not_or] at hl ⊢
  have h1:l ∉ tm.labs.map (·.1):=fun hm=>by
   obtain ⟨p,hp,e⟩:=List.mem_map.1 hm
   exact hl.1.1.1 (List.mem_map.2 ⟨p,hp,by rw [e]⟩)
  have h2:l ∉ tm.killL:=fun hm=>hl.1.2 (List.mem_map.2 ⟨l,hm,rfl⟩)
  have hk:tm.killL.elem l=false:=by simpa using h2
  obtain ⟨cs,c1,c2,c3⟩:=h.ce l cs0 hl.2 h0
  rw [xx _ _ _ (by rw [gw];exact h1),uC,qr h1,c1]
  simp only [Option.map_some,cupL,hk]
  refine ⟨_,rfl,by rw [tK,c2],fun i hi=>?_⟩
  rw [kL]
  cases hc:cs[i]? with
  | none=>rw [<-c3 i hi.2,hc];rfl
  | some d=>
   simp only [Option.map_some]
   rcases oy _ l (0+i) d with ⟨h5,_⟩ | ⟨c,h5,h6,h7,_⟩
   ·rw [h5,<-c3 i hi.2,hc]
   ·exfalso
    have:(c.1,c.2.1)∈tm.cups.map (fun c=>(c.1,c.2.1)):=by rw [<-pw];exact List.mem_map.2 ⟨c,h5,rfl⟩
    obtain ⟨c',h8,h9⟩:=List.mem_map.1 this
    simp at h9
    exact hi.1.1.2 (List.mem_map.2 ⟨c',h8,by rw [h9.1,h9.2,h6,h7];simp⟩)
theorem uX (tm:Tm) (v:tm.T) (b:St):Up b (tm.app v b):=Jt _ _ _
end Go.SH
namespace Go.SH
variable [SentA]
theorem ut:∀{m:List (Nat×Nat)},rD m=true->∀p∈m,lk m p.1=p.2
 | [],_,p,hp=>by simp at hp
 | (l,x)::r,h,p,hp=>by
  simp only [rD,Bool.and_eq_true,Bool.not_eq_true'] at h
  rcases List.mem_cons.1 hp with rfl | hp'
  ·simp [lk,lget]
  ·have h1:l≠p.1:=by
    intro e;rw [e] at h
    have:p.1∈r.map (·.1):=List.mem_map.2 ⟨p,hp',rfl⟩
    have h2:=h.1
    simp only [List.elem_eq_mem,decide_eq_false_iff_not] at h2
    exact h2 this
   have h2:=ut h.2 p hp'
   simp only [lk] at h2 ⊢
   rw [lget,if_neg h1];exact h2
theorem xD {L:DLb} {l:Nat} (h:(L.map (·.1)).elem l=true):hasL (dlb L) l=true:=by
 simp only [List.elem_eq_mem,decide_eq_true_eq] at h
 obtain ⟨p,hp,rfl⟩:=List.mem_map.1 h
 simp only [hasL,Option.isSome_iff_ne_none]
 clear h
 induction L with
 | nil=>simp at hp
 | cons q r ih=>
  obtain ⟨j,x⟩:=q
  simp only [dlb,List.map_cons,lget]
  split
  ·simp
  ·rename_i hj
   rcases List.mem_cons.1 hp with rfl | hp
   ·exact absurd rfl hj
   ·exact ih hp
theorem wn {m:List (Nat×Nat)} {L:DLb} {l:Nat} (h:idOK m L l=true):lk m l=l/\hasL (dlb L) l=true:=by
 simp only [idOK,Bool.and_eq_true,decide_eq_true_eq] at h
 exact ⟨h.1,xD h.2⟩
theorem RenA.of_all {τ:Nat->Nat} {S:Nat->Bool} {al:Al}:∀{al':Al},(∀p∈al',∃x,lget al p.1=some x/\Ren τ S x p.2)->RenA τ S al al'
 | [],_=>.nil
 | (t,y)::r,h=>by
  obtain ⟨x,h1,h2⟩:=h (t,y) (by simp)
  exact .cons h1 h2 (.of_all fun p hp=>h p (List.mem_cons_of_mem _ hp))
theorem RenB.of_all {τ:Nat->Nat} {S:Nat->Bool} {L:Lb}:∀{L':Lb},(∀p∈L',p.2=none\/∃ys,p.2=some ys/\((∃xs,lget L (τ p.1)=some (some xs)/\RenC τ S xs ys)\/(lget L (τ p.1)=none/\ys=[])))->RenB τ S L L'
 | [],_=>.nil
 | (l,y)::r,h=>by
  have hr:=RenB.of_all (L:=L) (τ:=τ) (S:=S) (L':=r) fun p hp=>h p (List.mem_cons_of_mem _ hp)
  rcases h (l,y) (by simp) with h1 | ⟨ys,h1,h2⟩
  ·simp only at h1;subst h1;exact .gone hr
  ·simp only at h1;subst h1
   rcases h2 with ⟨xs,h3,h4⟩ | ⟨h3,h4⟩
   ·exact .cons h3 h4 hr
   ·subst h4;exact .fresh h3 hr
theorem xT {l:List Nat} {x:Nat}:l.elem x=true<->x∈l:=by simp
theorem FO {f:Nat->Bool} {cs:List DV} (h:DM f (.cs cs)=true):DV.labsL f cs=true:=h
theorem zp {f:Nat->Bool}:∀{cs:List DV} {i:Nat} {d:DV},DV.labsL f cs=true->cs[i]?=some d->d.labs f=true
 | [],_,_,_,h=>by simp at h
 | c::r,i,d,h,hd=>by
  simp only [DV.labsL,Bool.and_eq_true] at h
  cases i with
  | zero=>simp at hd;subst hd;exact h.1
  | succ i=>exact zp h.2 (by simpa using hd)
theorem Fy (fr:Nat) (L:DLb) (cups:List (Nat×Nat×Sh)) (g:GS):(uv fr L cups g).vs=g.vs:=by unfold uv;split <;> rfl
theorem Dm (fr:Nat) (L:DLb) (cups:List (Nat×Nat×Sh)) (g:GS):g.Sub (uv fr L cups g):=by
 unfold uv
 split
 ·rename_i g' h;exact ⟨(AB h).1.1,fun _ h=>h⟩
 ·exact .refl _
theorem j7 {E:Env} {K:Nat->Prop} {tm:Tm} {ks:List Nat} {b s:St} {v:tm.T} (h:tm.leaf ks b s=some v) (he:Ext b s) (hs:s.ok) (hb:b.ok) (hK:∀l,K l->l∈ks) (hG:GOK E) :
  Weak E K (dal s.al) (dlb s.L) (dal (tm.app v b).al) (dlb (tm.app v b).L)/\(tm.app v b).ok:=by
 unfold Tm.leaf at h
 split at h
 ·rename_i g1 h1
  split at h
  ·rename_i g2 h2
   split at h
   ·rename_i g3 h3
    simp only at h
    split at h
    ·rename_i hc
     obtain ⟨c1,c2,c3,c4,c5,c6,c7,c8⟩:=hc
     obtain ⟨hq,hp⟩:=wh h
     have hap:tm.app v b=tm.appL g3.vs b:=by unfold Tm.app;rw [sK hp]
     rw [hap]
     obtain ⟨a1,xs,a2,a3,a4⟩:=EJ h1
     obtain ⟨b1,ys,b2,b4⟩:=wq h2
     obtain ⟨d1,zs,d2,d4⟩:=AB h3
     have hvs:g3.vs=xs++(ys++(zs++[])):=by rw [d2,b2,Fy,a2];simp
     generalize hS:tm.appL g3.vs b=s' at *
     have hF:Fin (lk g3.m) (hasL (dlb s'.L)) (lenF (lenT tm.labs (g3.vs.drop (nS tm.slots))) b.L) g3:=⟨fun p hp=>⟨ut c8 p hp,xD (List.all_eq_true.1 c5 p hp)⟩,hq⟩
     obtain ⟨e1,e2⟩:=a4 (ys++(zs++[])) (hF.sub ((Dm _ _ _ _).trans (b1.trans d1)))
     obtain ⟨f1,f2⟩:=b4 (zs++[]) (hF.sub d1)
     obtain ⟨i1,i2⟩:=d4 [] hF
     rw [<-hvs] at e1 e2
     have hal:s'.al=(mkS (lenF (lenT tm.labs (g3.vs.drop (nS tm.slots))) b.L) tm.slots g3.vs).1++ded (tm.slots.map (·.1)++tm.kill) b.al:=by rw [<-hS];rfl
     have hL:s'.L=(mkL (lenF (lenT tm.labs (g3.vs.drop (nS tm.slots))) b.L) tm.labs (ys++(zs++[]))).1++(ded (tm.labs.map (·.1)) b.L).map fun p=>(p.1,cupL (mkC (lenF (lenT tm.labs (g3.vs.drop (nS tm.slots))) b.L) tm.cups (zs++[])).1 tm.killL p.1 p.2):=by
      rw [<-hS];simp only [Tm.appL];rw [e1,f1]
     generalize lenF (lenT tm.labs (g3.vs.drop (nS tm.slots))) b.L=len at *
     generalize hcu:(mkC len tm.cups (zs++[])).1=cu at *
     have hcuk:∀l i,(∃c∈cu,c.1=l/\c.2.1=i)<->∃c∈tm.cups,c.1=l/\c.2.1=i:=by
      intro l i
      have hk:=pw len tm.cups (zs++[])
      rw [hcu] at hk
      constructor
      ·rintro ⟨c,hc,rfl,rfl⟩
       have:(c.1,c.2.1)∈tm.cups.map (fun c=>(c.1,c.2.1)):=by rw [<-hk];exact List.mem_map.2 ⟨c,hc,rfl⟩
       obtain ⟨c',h1,h2⟩:=List.mem_map.1 this
       simp at h2;exact ⟨c',h1,h2⟩
      ·rintro ⟨c,hc,rfl,rfl⟩
       have:(c.1,c.2.1)∈cu.map (fun c=>(c.1,c.2.1)):=by rw [hk];exact List.mem_map.2 ⟨c,hc,rfl⟩
       obtain ⟨c',h1,h2⟩:=List.mem_map.1 this
       simp at h2;exact ⟨c',h1,h2⟩
     simp only [AL,Bool.and_eq_true,List.all_eq_true] at c1
     rw [List.all_eq_true] at c2 c3 c4 c6 c7
     have hA:RenA (lk g3.m) (hasL (dlb s'.L)) (dal s.al) (dal s'.al):=by
      refine RenA.of_all fun p hp=>?_
      obtain ⟨⟨t,d'⟩,hp1,rfl⟩:=List.mem_map.1 hp
      rw [hal] at hp1
      clear hp
      rcases List.mem_append.1 hp1 with hp | hp
      ·obtain ⟨d,k1,k2,_⟩:=e2 _ hp
       exact ⟨d.pv,by rw [aZ,k1];rfl,k2⟩
      ·obtain ⟨k1,k2⟩:=kc hp
       refine ⟨d'.pv,?_,tg (fun l hl=>wn hl) (c2 _ hp)⟩
       have:t ∉ s.ds:=fun hd=>by
        have:=c1.1 t hd
        simp only [Bool.or_eq_true,xT] at this
        simp only [List.mem_append,not_or] at k1
        exact this.elim k1.1 k1.2
       rw [aZ,he.sl t this,k2];rfl
     have hB:RenB (lk g3.m) (hasL (dlb s'.L)) (dlb s.L) (dlb s'.L):=by
      refine RenB.of_all fun p hp=>?_
      obtain ⟨⟨l,c⟩,hp1,rfl⟩:=List.mem_map.1 hp
      rw [hL] at hp1
      clear hp
      rcases List.mem_append.1 hp1 with hp | hp
      ·obtain ⟨_,ys',k2,k3⟩:=f2 _ hp
       exact .inr ⟨ys',k2,k3⟩
      ·obtain ⟨⟨l',c0⟩,hp2,e⟩:=List.mem_map.1 hp
       simp only [Prod.mk.injEq] at e;obtain ⟨rfl,rfl⟩:=e
       obtain ⟨k1,k2⟩:=kc hp2
       have hid:=c3 _ hp2
       simp only [Bool.and_eq_true] at hid
       obtain ⟨hid1,hid2⟩:=hid
       obtain ⟨hid3,hid4⟩:=wn hid1
       have hkey:l'∈b.L.map (·.1):=List.mem_map.2 ⟨_,ai k2,rfl⟩
       have hdirty:∀oi,(l',oi)∈s.dl->tm.killL.elem l'=false->∃i,oi=some i/\(∃cs,lget b.L l'=some (.cs cs))/\∃c∈tm.cups,c.1=l'/\c.2.1=i:=by
        intro oi ho hk
        have:=c1.2 _ ho
        simp only [Bool.or_eq_true,xT,Bool.not_eq_true',hk] at this
        rcases this with ((h5 | h5) | h5) | h5
        ·exact absurd h5 k1
        ·exact absurd h5 (by simp)
        ·have h6:(b.L.map (·.1)).elem l'=true:=xT.2 hkey
         rw [h6] at h5;simp at h5
        ·cases oi with
         | none=>simp at h5
         | some i=>
          simp only [Bool.and_eq_true,List.any_eq_true,decide_eq_true_eq] at h5
          refine ⟨i,rfl,?_,h5.2⟩
          have h6:=h5.1
          split at h6
          ·rename_i cs hcs;exact ⟨cs,hcs⟩
          ·simp at h6
       show _\/_
       simp only at k2 hid2 hid3 ⊢
       cases hk:tm.killL.elem l' with
       | true=>
        left
        cases c0 with
        | gone=>simp only [cupL,hk];rfl
        | ls t x=>simp only [cupL,hk];rfl
        | cs cs=>simp only [cupL,hk];rfl
       | false=>
        cases c0 with
        | gone=>left;simp only [cupL,hk];rfl
        | ls t x=>
         right
         refine ⟨fl (el t) x,by simp only [cupL,hk];rfl,.inl ⟨fl (el t) x,?_,.pure (em _)⟩⟩
         rw [hid3,an,he.lb l' (fun i hi=>by
          obtain ⟨_,_,⟨cs,h5⟩,_⟩:=hdirty i hi hk
          rw [k2] at h5;simp at h5),k2];rfl
        | cs cs0=>
         right
         obtain ⟨cs,j1,j2,j3⟩:=he.ce l' cs0 (fun hn=>by obtain ⟨_,h5,_⟩:=hdirty none hn hk;simp at h5) k2
         refine ⟨DV.pvs (cupM cu l' 0 cs0),by simp only [cupL,hk];rfl,.inl ⟨DV.pvs cs,by rw [hid3,an,j1];rfl,RenC.of_get (by rw [aB,aB,tK,j2]) fun i x y hx hy=>?_⟩⟩
         rw [nW] at hx hy
         rw [kL] at hy
         cases hc0:cs0[i]? with
         | none=>rw [hc0] at hy;simp at hy
         | some d0=>
          rw [hc0] at hy
          simp only [Option.map_some,Option.some.injEq,Nat.zero_add] at hy
          rcases oy cu l' i d0 with ⟨h5,h6⟩ | ⟨c,h5,h6,h7,h8⟩
          ·rw [h5] at hy;subst hy
           have:(l',some i) ∉ s.dl:=fun hn=>by
            obtain ⟨i',h9,_,h10⟩:=hdirty (some i) hn hk
            simp at h9;subst h9
            obtain ⟨c,h11,h12⟩:=(hcuk l' i).2 h10
            exact h6 c h11 h12
           rw [j3 i this,hc0] at hx
           simp at hx;subst hx
           exact tg (fun l hl=>wn hl) (zp (FO hid2) hc0)
          ·obtain ⟨cs',d,h9,h10,h11,_⟩:=i2 c h5
           rw [h6,j1] at h9;simp at h9;subst h9
           rw [h7] at h10;rw [h10] at hx
           simp at hx;subst hx
           rw [h8] at hy;subst hy
           exact h11
     refine ⟨Weak.ren g3.m ks hA hB ?_ hK hG,?_,?_⟩
     ·simp only [GP,Bool.and_eq_true,List.all_eq_true,decide_eq_true_eq]
      refine ⟨fun p hp q hq=>?_,fun l hl=>?_⟩
      ·obtain ⟨p',hp1,rfl⟩:=List.mem_map.1 hp
       obtain ⟨q',hq1,rfl⟩:=List.mem_map.1 hq
       have:=c7 _ hp1
       rw [List.all_eq_true] at this
       have:=this _ hq1
       simp only [Bool.or_eq_true,decide_eq_true_eq] at this
       simp only [Bool.or_eq_true,decide_eq_true_eq,Bool.not_eq_true']
       rcases this with (h5 | h5) | h5
       ·left;left
        cases hc:p'.2 with
        | gone=>rfl
        | cs x=>rw [hc] at h5;simp [vw] at h5
        | ls x y=>rw [hc] at h5;simp [vw] at h5
       ·left;right
        cases hc:q'.2 with
        | gone=>rfl
        | cs x=>rw [hc] at h5;simp [vw] at h5
        | ls x y=>rw [hc] at h5;simp [vw] at h5
       ·exact .inr h5
      ·obtain ⟨h5,h6⟩:=wn (c6 l hl)
       exact ⟨h5,h6⟩
     ·intro t x hx
      rw [hal] at hx
      rcases nt hx with ⟨p,hp,rfl⟩ | ⟨_,hx⟩
      ·obtain ⟨_,_,_,k3⟩:=e2 _ hp;exact k3
      ·obtain ⟨_,k2⟩:=kc (ai hx)
       exact hb.1 _ _ k2
     ·intro l c hl
      rw [hL] at hl
      rcases nt hl with ⟨p,hp,rfl⟩ | ⟨_,hl⟩
      ·exact (f2 _ hp).1
      ·have hm:=ai hl
       obtain ⟨⟨l',c0⟩,hp2,e⟩:=List.mem_map.1 hm
       simp only [Prod.mk.injEq] at e;obtain ⟨rfl,rfl⟩:=e
       obtain ⟨_,k2⟩:=kc hp2
       have hok:=hb.2 _ _ k2
       cases c0 with
       | gone=>simp only [cupL];split <;> trivial
       | ls t x=>simp only [cupL];split <;> trivial
       | cs cs0=>
        simp only [cupL]
        split
        ·trivial
        ·refine bS.2 fun x hx=>?_
         obtain ⟨i,hi⟩:=List.getElem?_of_mem hx
         rw [kL] at hi
         cases hc0:cs0[i]? with
         | none=>rw [hc0] at hi;simp at hi
         | some d0=>
          rw [hc0] at hi
          simp only [Option.map_some,Option.some.injEq,Nat.zero_add] at hi
          subst hi
          rcases oy cu l' i d0 with ⟨h5,_⟩ | ⟨c,h5,_,_,h8⟩
          ·rw [h5];exact qe hok hc0
          ·obtain ⟨_,_,_,_,_,h12⟩:=i2 c h5
           rw [h8];exact h12
    ·simp at h
   ·simp at h
  ·simp at h
 ·simp at h
end Go.SH
namespace Go.SH
inductive Tr where
 | nil
 | node (v:Option (List PV)) (l r:Tr)
def tget:Tr->Nat->Option (List PV)
 | .nil,_=>none
 | .node v l r,k=>bif k.beq 0 then v else bif (k % 2).beq 1 then tget l (k / 2) else tget r (k / 2-1)
def tset:Nat->Tr->Nat->Option (List PV)->Tr
 | 0,t,_,_=>t
 | f+1,.nil,k,y=>bif k.beq 0 then .node y .nil .nil else bif (k % 2).beq 1 then .node none (tset f .nil (k / 2) y) .nil else .node none .nil (tset f .nil (k / 2-1) y)
 | f+1,.node v l r,k,y=>bif k.beq 0 then .node y l r else bif (k % 2).beq 1 then .node v (tset f l (k / 2) y) r else .node v l (tset f r (k / 2-1) y)
theorem Jr (a b:Nat):a.beq b=decide (a=b):=by
 rw [Bool.eq_iff_iff];simp [Nat.beq_eq]
def maxL:Nat:=1048574
def tput (m:Tr) (l:Nat) (y:Option (List PV)):Tr:=tset 20 m l y
def tupd:Tr->Lb->Tr
 | m,[]=>m
 | m,(l,y)::r=>tupd (tput m l y) r
def xbnd (G:List (Nat×List PV)) (al:Al) (o:Option Operand) (dflt:Nat):Option Nat:=
 match o with
 | none=>some dflt
 | some x=>match xev G al x with
  | some (.int _ (.ofNat n))=>some n
  | _=>none
def xslc (L:Lb) (sz:Nat):PV->Option (List PV×Nat)
 | .nils=>some ([],0)
 | .ro cs n _=>if cs.length=n*sz then some (cs,n) else none
 | .rw l off n s _=>if s=sz then (match lget L l with
  | some (some cs)=>if off+n*sz<=cs.length then some ((cs.drop off).take (n*sz),n) else none
  | _=>none) else none
 | _=>none
def xsrc (P:Program) (L:Lb) (sz:Nat) (tx:TypeId) (p:PV):Option (List PV×Nat):=
 match P.underlying tx with
 | some (.slice _)=>match xslc L sz p with
  | some (cs,k)=>if cs.all PV.one=true then some (cs,k) else none
  | none=>none
 | some .string=>match p with
  | .str s=>if sz=1 then some (s.map fun b=>.int .u8 b.toNat,s.length) else none
  | _=>none
 | _=>none
def E0:List PV->Option (List UInt8)
 | []=>some []
 | .int .u8 (.ofNat n)::r=>if n<256 then (match E0 r with | some s=>some (UInt8.ofNat n::s) | none=>none) else none
 | _=>none
def EW:List PV->Option (List Int)
 | []=>some []
 | .int .i32 n::r=>match EW r with | some s=>some (n::s) | none=>none
 | _=>none
def bQ (ns:List Int):List UInt8:=ns.flatMap fun n=>(Utf8.encode n).data.toList
theorem Fs (ns:List Int):runesBytes ns=⟨⟨bQ ns⟩⟩:=by
 have key:∀(ns:List Int) (acc:ByteArray),ns.foldl (fun r n=>r++Utf8.encode n) acc=⟨⟨acc.data.toList++bQ ns⟩⟩:=by
  intro ns
  induction ns with
  | nil=>intro acc;simp [bQ]
  | cons n ns ih=>
   intro acc
   simp only [List.foldl_cons]
   rw [ih]
   simp [bQ]
 unfold runesBytes
 rw [key]
 rfl
section
variable {E:Env} {d:Option Tmp} {ty:TypeId} {pos:String} {after:Array Edge} {g:Option (Nat×Bool)} {ra:Al} {rl:Lb}
theorem Bi {s t e:TypeId} {x:Operand} {p:PV} {ns:List Int} (hx:xev E.G ra x=some p) (hs:E.P.underlying s=some (.slice e)) (he:E.P.underlying e=some (.int .i32)) (ht:E.P.underlying t=some .string)
  (hc:SlC rl 1 p (ns.map (PV.int .i32)) ns.length):AOp E ⟨d,.convert s t x,ty,pos,after,g⟩ ra rl (.str (bQ ns)) []:=by
 refine bA fun A w σ al L a r h1 h2=>⟨.string ⟨⟨bQ ns⟩⟩,?_,.str _⟩
 have hv:=aQ r h1 hx
 have hc':=wT h2 hc
 obtain ⟨us,u1,u2,u3⟩:=tA (P:=E.P) r.blocks hv hc'
 obtain ⟨ad,cap,hex,_,_⟩:=rv r.blocks hv hc'
 have hus:us=ns.map (Value.int .i32):=by
  apply List.ext_getElem?
  intro i
  by_cases hi:i<ns.length
  ·obtain ⟨u,h5,h6⟩:=u2 i (.int .i32 ns[i]) (by simp [hi])
   rw [h5]
   cases h6
   simp [hi]
  ·rw [List.getElem?_eq_none (by omega),List.getElem?_eq_none (by simp;omega)]
 have h3:=u3 w rfl
 rw [hex] at h3
 have hconv:(convert s t (a.eval x)).run E.P w = .ok (.string ⟨⟨bQ ns⟩⟩) w:=by
  rw [hex,run_convert_runes_string w s t e ad _ cap hs he ht]
  cases ad with
  | none=>
   simp [Builtin.firstCells] at h3
   subst h3
   have:ns=[]:=List.eq_nil_of_length_eq_zero (by simpa using u1.symm)
   subst this
   simp [Conv.runesToString,bQ]
   rfl
  | some ad=>
   simp only [Builtin.firstCells,Nat.mul_one] at h3
   rw [hus] at h3
   rw [run_runesToString w ad ns.length cap _ h3,Fs]
 simp [execOp,hconv]
end
def posS:PV->Bool
 | .rw _ _ n _ _=>Nat.blt 0 n
 | .ro _ n _=>Nat.blt 0 n
 | _=>false
def isSl:Option TypeDesc->Bool
 | some (.slice _)=>true
 | _=>false
section
variable {E:Env} {d:Option Tmp} {ty:TypeId} {pos:String} {after:Array Edge} {g:Option (Nat×Bool)} {ra:Al} {rl:Lb}
end
def roOK (sz:Nat):PV->Bool
 | .ro cs m _=>decide (cs.length=m*sz)
 | _=>true
def xop2 (P:Program) (G:List (Nat×List PV)) (o:Oper) (al:Al) (L:Lb) (lab:Nat):Option (PV×Lb):=
 match o.op with
 | .slice T x lo hi none=>match xev G al x,P.underlying T with
  | some (.str s),some .string=>match xbnd G al lo 0,xbnd G al hi s.length with
   | some l,some h=>if l<=h/\h<=s.length then some (.str ((s.drop l).take (h-l)),[]) else none
   | _,_=>none
  | some (.ptr lb 0),some (.array n t)=>match lget L lb,P.info? t with
   | some (some cells),some ie=>match xbnd G al lo 0,xbnd G al hi n with
    | some l,some h=>if cells.length=n*ie.size/\0<n*ie.size/\l<=h/\h<=n then some (.rw lb (l*ie.size) (h-l) ie.size none,[]) else none
    | _,_=>none
   | _,_=>none
  | some p,some (.slice e)=>match P.info? e,xlen p with
   | some ie,some n=>match xbnd G al lo 0,xbnd G al hi n with
    | some l,some h=>if l<=h/\h<=n/\0<ie.size/\roOK ie.size p=true then (wF ie.size l h p).map fun q=>(q,[]) else none
    | _,_=>none
   | _,_=>none
  | _,_=>none
 | .call ⟨.builtin .append,⟨[x,y]⟩,⟨[T,tx]⟩⟩=>match xev G al x,xev G al y,P.underlying T with
  | some p,some q,some (.slice e)=>match P.info? e,g7 P e with
   | some ie,some z=>if z.length=ie.size/\0<ie.size then (match xsrc P L ie.size tx q with
    | some (news,k)=>match p with
     | .nils=>if k*ie.bytes<=140737488355328/\k<=9223372036854775807 then some (.rw lab 0 k ie.size none,[(lab,some news)]) else none
     | .rw l off n s _=>match lget L l with
      | some (some cells)=>if s=ie.size/\off+n*ie.size<=cells.length/\(n+k)*ie.bytes<=140737488355328/\n+k<=9223372036854775807 then
        some (.rw lab 0 (n+k) ie.size none,[(l,none),(lab,some ((cells.drop off).take (n*ie.size)++news))]) else none
      | _=>none
     | _=>none
    | none=>none) else none
   | _,_=>none
  | _,_,_=>none
 | .call ⟨.builtin .copy,⟨[x,y]⟩,⟨[T,tx]⟩⟩=>match xev G al x,xev G al y,P.underlying T with
  | some (.rw l off n s _),some q,some (.slice e)=>match P.info? e,lget L l with
   | some ie,some (some cells)=>if s=ie.size/\off+n*ie.size<=cells.length then (match xslc L ie.size q with
    | some (cont,k)=>if cont.all PV.one=true then some (.int .i64 ((Nat.min k n:Nat):Int),[(l,some (dw cells off (cont.take (Nat.min k n*ie.size))))]) else none
    | none=>none) else none
   | _,_=>none
  | _,_,_=>none
 | .makeSlice T x y=>match xev G al x,xev G al y,P.underlying T with
  | some (.int _ (.ofNat n)),some (.int _ (.ofNat c)),some (.slice e)=>match P.info? e,g7 P e with
   | some ie,some z=>if z.length=ie.size/\0<ie.size/\n<=c/\c*ie.bytes<=140737488355328/\c<=9223372036854775807 then some (.rw lab 0 n ie.size (some c),[(lab,some (zrow z (c*ie.size)))]) else none
   | _,_=>none
  | _,_,_=>none
 | .convert s t x=>match xev G al x,P.underlying s,P.underlying t with
  | some p,some (.slice e),some .string=>match P.underlying e,xslc L 1 p with
   | some (.int .u8),some (cs,k)=>match E0 cs with
    | some bs=>some (.str bs,[])
    | none=>none
   | some (.int .i32),some (cs,k)=>match EW cs with
    | some ns=>some (.str (bQ ns),[])
    | none=>none
   | _,_=>none
  | some (.str bs),some .string,some (.slice e)=>match P.underlying e with
   | some (.int .u8)=>some (.rw lab 0 bs.length 1 none,[(lab,some (fl eU8 bs))])
   | _=>none
  | some (.rw l off n sz co),some (.slice e),some (.slice _)=>match P.underlying e,lget L l with
   | some (.int .u8),some (some cells)=>if s=t/\n≠0 then some (.rw l off n sz co,[(l,some cells)]) else none
   | _,_=>none
  | _,_,_=>xop P G o al L lab
 | .binOp op T x y yt=>match op,xev G al x,xev G al y with
  | .add,some (.str s),some (.str t)=>if s.length+t.length<=9223372036854775807 then some (.str (s++t),[]) else none
  | .eql,some p,some .nils=>bif posS p&&isSl (P.underlying T) then some (.bool false,[]) else xop P G o al L lab
  | .neq,some p,some .nils=>bif posS p&&isSl (P.underlying T) then some (.bool true,[]) else xop P G o al L lab
  | _,_,_=>xop P G o al L lab
 | _=>xop P G o al L lab
end Go.SH
namespace Go.SH
variable [SentA]
theorem PLe.tup {xs ys:List PV} (h:CLe xs ys):PLe (.tup xs) (.tup ys):=by
 intro w σ av v hv
 cases hv with
 | tup cs hl hv=>
  refine .tup cs (h.1▸hl) fun i y u hy hu=>?_
  have hi:i<xs.length:=by rw [h.1];exact (List.getElem?_eq_some_iff.1 hy).1
  exact h.2 i _ y (List.getElem?_eq_getElem hi) hy _ _ _ _ (hv i _ u (List.getElem?_eq_getElem hi) hu)
theorem PLe.fn {f:FuncId} {xs ys:List PV} (h:CLe xs ys):PLe (.fn f xs) (.fn f ys):=by
 intro w σ av v hv
 cases hv with
 | fn _ cs hl hv=>
  refine .fn f cs (h.1▸hl) fun i y u hy hu=>?_
  have hi:i<xs.length:=by rw [h.1];exact (List.getElem?_eq_some_iff.1 hy).1
  exact h.2 i _ y (List.getElem?_eq_getElem hi) hy _ _ _ _ (hv i _ u (List.getElem?_eq_getElem hi) hu)
theorem PLe.iface {t:TypeId} {x y:PV} (h:PLe x y):PLe (.iface t x) (.iface t y):=by
 intro w σ av v hv
 cases hv with
 | iface _ u hu=>exact .iface t u (h _ _ _ _ hu)
theorem PLe.rop {xs ys:List PV} {n:Nat} (h:CLe xs ys):PLe (.rop xs n) (.rop ys n):=by
 intro w σ av v hv
 cases hv with
 | rop cs him hl hv=>
  refine .rop cs him (h.1▸hl) fun i y u hy hu=>?_
  have hi:i<xs.length:=by rw [h.1];exact (List.getElem?_eq_some_iff.1 hy).1
  exact h.2 i _ y (List.getElem?_eq_getElem hi) hy _ _ _ _ (hv i _ u (List.getElem?_eq_getElem hi) hu)
theorem PLe.ro {xs ys:List PV} {n:Nat} {co:Option Nat} (h:CLe xs ys):PLe (.ro xs n co) (.ro ys n none):=by
 intro w σ av v hv
 cases hv with
 | roE a cap hc=>
  have:ys=[]:=List.eq_nil_of_length_eq_zero h.1.symm
  subst this;exact .roE _ _ (by simp)
 | ro cs him hl hv hn hc=>
  refine .ro cs him (h.1▸hl) (fun i y u hy hu=>?_) hn (by simp)
  have hi:i<xs.length:=by rw [h.1];exact (List.getElem?_eq_some_iff.1 hy).1
  exact h.2 i _ y (List.getElem?_eq_getElem hi) hy _ _ _ _ (hv i _ u (List.getElem?_eq_getElem hi) hu)
theorem Ren.ple {τ:Nat->Nat} {x y:PV} (h:Ren τ (fun _=>false) x y):PLe x y:=by
 induction h with
 | pure h=>exact .refl _
 | rw h _=>simp at h
 | ptr h _=>simp at h
 | agg hl _ ih=>exact .agg ⟨hl,ih⟩
 | tup hl _ ih=>exact .tup ⟨hl,ih⟩
 | fn hl _ ih=>exact .fn ⟨hl,ih⟩
 | iface _ ih=>exact .iface ih
 | yld h _ _=>simp at h
 | nilsRo=>exact .nilsRo
 | nilsFs=>exact .nilsFs
 | niliEv=>exact .niliEv
 | nilsRw h=>simp at h
 | roCo h=>exact .ro (.refl _)
 | rwCo h _=>simp at h
theorem RenC.cle {τ:Nat->Nat} {xs ys:List PV} (h:RenC τ (fun _=>false) xs ys):CLe xs ys:=⟨h.get.1,fun i x y hx hy=>(h.get.2 i x y hx hy).ple⟩
def ji (L:Lb) (x y:PV):Prop:=∃z,Out L x z/\PLe z y
theorem Em {rl:DLb} {t:ET} {q:DV} {l:List t.T} {cells:List PV} (h:SrcS rl t q l cells) (hp:ag (fun _=>false) cells=true) (hq:∃lab sz off n co w,q = .rw lab sz off n co w):ji (dlb rl) q.pv (.ro (fl (el t) l) l.length none):=by
 obtain ⟨lab,sz,off,n,co,w,rfl⟩:=hq
 obtain ⟨cc,h1,h2,h3,h4,h5⟩:=h.rw _ _ _ _ _ _ rfl
 subst h5;subst h3
 exact ⟨.ro cells l.length none,.rw h1 h4 h2 hp,.ro h.le⟩
mutual
def DV.noF:DV->Bool
 | .ep t _ _ _ _=>t.noF
 | .gp t _=>t.noF
 | .sl t _=>t.noF
 | .fsl _ _ _=>false
 | .oi _ t _=>t.noF
 | .oq t _=>t.noF
 | .fn _ cs=>DV.noFL cs
 | .iface _ v=>v.noF
 | .agg cs=>DV.noFL cs
 | .tup cs=>DV.noFL cs
 | .yl _ cs=>DV.noFL cs
 | _=>true
def DV.noFL:List DV->Bool
 | []=>true
 | d::r=>d.noF&&DV.noFL r
end
def DV.labsN (S:Nat->Bool) (d:DV):Bool:=d.labs S&&(d.noF||S flab)
def DV.labsLN (S:Nat->Bool) (ds:List DV):Bool:=DV.labsL S ds&&(DV.noFL ds||S flab)
theorem wJ {S:Nat->Bool} (hS:S flab=true) {x:PV} (h:pureF x=true):am S x=true:=by
 have:∀x:PV,pureF x=true->am S x=true:=by
  intro x
  apply PV.rec (motive_1:=fun x=>pureF x=true->am S x=true) (motive_2:=fun xs=>bY xs=true->ag S xs=true)
  all_goals intros
  all_goals simp_all [am,ag,pureF,bY]
 exact this x h
theorem yZ {S:Nat->Bool} (hS:S flab=true) {xs:List PV} (h:bY xs=true):ag S xs=true:=by
 rw [fE] at h;rw [ct]
 rw [List.all_eq_true] at h ⊢
 exact fun x hx=>wJ hS (h x hx)
theorem fH {S:Nat->Bool} {t:ET} (h:t.noF=true\/S flab=true) (l:List t.T):ag S (fl (el t) l)=true:=by
 rcases h with h | h
 ·exact jl (hY h l)
 ·exact yZ h (em l)
theorem vk {S:Nat->Bool} {T:TypeId} {t:ET} (h:t.noF=true\/S flab=true) (x:Option t.T):am S (optI T (el t) x)=true:=by
 rcases h with h | h
 ·have:=jl (S:=S) (DD (.to T t) h x);simpa [el,eO,ag] using this
 ·exact wJ h (qd T x)
theorem vj {S:Nat->Bool} {t:ET} (h:t.noF=true\/S flab=true) (x:Option t.T):am S (optQ (el t) x)=true:=by
 rcases h with h | h
 ·have:=jl (S:=S) (DD (.tq t) h x);simpa [el,eQ,ag] using this
 ·exact wJ h (qc x)
theorem FOut.le {x x' y:PV} (h:PLe x x') (k:FOut x' y):FOut x y:=fun w σ av v σ1 av1 hv=>k w σ av v σ1 av1 (h _ _ _ _ hv)
theorem EL {q n:Nat} {co:Option Nat} {cells:List PV} (hp:ag (fun _=>false) cells=true):FOut (.fs q cells n co) (.ro cells n none):=by
 intro w σ av v σ1 av1 hv h1 h2
 cases hv with
 | fsE a cap hc=>exact .roE _ _ (by simp)
 | @fs _ _ _ _ β add cap c T fr hf hh hfr hl hv hn hc hz=>
  obtain ⟨e1,e2⟩:=h2 β ⟨q,add,hf⟩
  have get:∀i,i<cells.length->c[add+i]?=some ((c[add+i]?).getD undef):=fun i hi=>by
   rw [Array.getElem?_eq_getElem (by omega)];rfl
  refine .ro ((List.range cells.length).map fun i=>(c[add+i]?).getD undef) ⟨e1,e2,fun i v hv'=>?_⟩ (by simp) (fun i x v hx hv'=>?_) hn (by simp)
  ·have hi:i<cells.length:=by have:=(List.getElem?_eq_some_iff.1 hv').1;simpa using this
   rw [fK hh,get i hi]
   simp [List.getElem?_range hi] at hv'
   rw [hv']
  ·have hi:i<cells.length:=(List.getElem?_eq_some_iff.1 hx).1
   simp [List.getElem?_range hi] at hv'
   refine (hv i x v hx ?_).pure (az hp hx) h1
   rw [get i hi,hv']
theorem GH {rl:DLb} {qq:Nat} {t:ET} {q:DV} {l:List (List t.T)} {cells:List PV} (h:SrcS rl (.tf qq t) q l cells) (ht:t.noF=true) (hq:∃lab sz off n co w,q = .rw lab sz off n co w):ji (dlb rl) q.pv (.ro (fl (el (.tl t)) l) l.length none):=by
 obtain ⟨lab,sz,off,n,co,w,rfl⟩:=hq
 obtain ⟨cc,h1,h2,h3,h4,h5⟩:=h.rw _ _ _ _ _ _ rfl
 subst h5;subst h3
 have e1:∀(l:List (List t.T)),fl (el (.tf qq t)) l=l.map fun x=>PV.fs qq (fl (el t) x) x.length none:=fun l=>by
  induction l with
  | nil=>rfl
  | cons x l ih=>rw [cj,ih];rfl
 have e2:∀(l:List (List t.T)),fl (el (.tl t)) l=l.map fun x=>PV.ro (fl (el t) x) x.length none:=fun l=>by
  induction l with
  | nil=>rfl
  | cons x l ih=>rw [cj,ih];rfl
 have hle:=h.le
 rw [e1] at hle
 refine ⟨_,.rwF (part':=fl (el (.tl t)) l) h1 h4 h2 (by rw [e2,hle.1];simp) fun i x y hx hy=>?_,.refl _⟩
 rw [e2] at hy
 simp only [List.getElem?_map,Option.map_eq_some_iff] at hy
 obtain ⟨z,hz,rfl⟩:=hy
 have h6:(l.map fun x=>PV.fs qq (fl (el t) x) x.length none)[i]?=some (PV.fs qq (fl (el t) z) z.length none):=by simp [hz]
 exact FOut.le (hle.2 i x _ hx h6) (EL (hY ht z))
section
variable {R:Type} {r:R}
def HG (c:DC):Bool:=match c with
 | .cs cs=>DV.labsLN (fun _=>false) cs
 | .ls t _=>t.noF
 | .gone=>true
def LT (rl:DLb) (l:Nat) (t:ET):Option Nat:=match lget rl l with
 | some (.ls (.tf q t') _)=>if t'=t then some q else none
 | _=>none
def Eo (rl:DLb):(t:ET)->DV->(List t.T->Option R)->Option R
 | .tl t,d,kk=>match d with
  | .rw lab sz off n co w=>match LT rl lab t with
   | some q=>if t.noF=true then srcL rl (.tf q t) (.rw lab sz off n co w) kk else none
   | none=>none
  | _=>none
 | _,_,_=>none
theorem Bz {rl:DLb} {t:ET} {d:DV} {kk:List t.T->Option R} (h:Eo rl t d kk=some r):∃l,kk l=some r/\ji (dlb rl) d.pv (.ro (fl (el t) l) l.length none):=by
 unfold Eo at h
 split at h
 ·split at h
  ·split at h
   ·split at h
    ·rename_i ht
     obtain ⟨l,cells,hs,h⟩:=iG h
     exact ⟨l,h,GH hs ht ⟨_,_,_,_,_,_,rfl⟩⟩
    ·simp at h
   ·simp at h
  ·simp at h
 ·simp at h
def mN (rl:DLb) (l:Nat):Bool:=match lget rl l with
 | some c=>HG c
 | none=>false
def isRw:DV->Bool
 | .rw _ _ _ _ _ _=>true
 | _=>false
def Ja:ET->Option ET
 | .tf _ t=>some t
 | _=>none
def borL (rl:DLb):List DV->(List DV->Option R)->Option R
 | [],k=>k []
 | d::ds,k=>match d with
  | .rw lab sz off n co w=>match lget rl lab with
   | some (.ls t _)=>match t.noF with
    | true=>srcL rl t (.rw lab sz off n co w) fun l=>borL rl ds fun ds=>k (.sl t l::ds)
    | false=>match Ja t with
     | some t=>Eo rl (.tl t) (.rw lab sz off n co w) fun l=>borL rl ds fun ds=>k (.sl (.tl t) l::ds)
     | none=>none
   | _=>none
  | d=>if d.labsN (fun _=>false)=true then borL rl ds fun ds=>k (d::ds) else none
def outP (rl:DLb) (t:ET) (l:Nat) (k:t.T->Option R):Option R:=match lget rl l with
 | some (.cs cs)=>if DV.labsLN (fun _=>false) cs=true then match t.one cs with
  | some x=>k x
  | none=>none else none
 | _=>none
mutual
def Sh.getB (rl:DLb):Sh->DV->GS->(GS->Option R)->Option R
 | .h (.tl t),d,g,kk=>match d with
  | .rw lab sz off n co w=>if mN rl lab=true then srcL rl t (.rw lab sz off n co w) fun l=>kk (g.put ⟨.tl t,l⟩) else Eo rl t (.rw lab sz off n co w) fun l=>kk (g.put ⟨.tl t,l⟩)
  | .fsl q t' x=>if h:t'=t then if t.noF=true then kk (g.put ⟨.tl t,(h▸x:List t.T)⟩) else none else none
  | d=>if d.noF=true then match t.tl.one [d] with
   | some x=>kk (g.put ⟨.tl t,x⟩)
   | none=>none else none
 | .h (.to T t),d,g,kk=>match d with
  | .iface T' (.ptr l 0)=>if T'=T then outP rl t l fun x=>kk (g.put ⟨.to T t,some x⟩) else none
  | d=>if d.noF=true then match (ET.to T t).one [d] with
   | some x=>kk (g.put ⟨.to T t,x⟩)
   | none=>none else none
 | .h (.tq t),d,g,kk=>match d with
  | .ptr l 0=>outP rl t l fun x=>kk (g.put ⟨.tq t,some x⟩)
  | d=>if d.noF=true then match (ET.tq t).one [d] with
   | some x=>kk (g.put ⟨.tq t,x⟩)
   | none=>none else none
 | .st t,d,g,kk=>match d with
  | .agg ds=>match ds.any isRw with
   | true=>borL rl ds fun ds=>match t.one ds with
    | some x=>kk (g.put ⟨t,x⟩)
    | none=>none
   | false=>if DV.noFL ds=true then match t.one ds with
    | some x=>kk (g.put ⟨t,x⟩)
    | none=>none else none
  | _=>none
 | .agg cs,d,g,kk=>match d with
  | .agg ds=>Sh.getBs rl cs ds g kk
  | _=>none
 | .tup cs,d,g,kk=>match d with
  | .tup ds=>Sh.getBs rl cs ds g kk
  | _=>none
 | s,d,g,kk=>if d.noF=true then match s.get 0 d g with
  | some g'=>match g'.m,g'.q with
   | [],[]=>kk g'
   | _,_=>none
  | none=>none else none
def Sh.getBs (rl:DLb):List Sh->List DV->GS->(GS->Option R)->Option R
 | [],ds,g,kk=>match ds with
  | []=>kk g
  | _::_=>none
 | s::ss,ds,g,kk=>match ds with
  | []=>none
  | d::ds=>s.getB rl d g fun g=>Sh.getBs rl ss ds g kk
end
mutual
theorem jE {S:Nat->Bool}:∀{d:DV},d.labs S=true->(d.noF=true\/S flab=true)->am S d.pv=true
 | .dead,_,_=>rfl
 | .int _ _,_,_=>rfl
 | .by _,_,_=>rfl
 | .bool _,_,_=>rfl
 | .str _,_,_=>rfl
 | .nilp,_,_=>rfl
 | .nils,_,_=>rfl
 | .nilf,_,_=>rfl
 | .nili,_,_=>rfl
 | .ev _ _,_,_=>rfl
 | .oi T t x,_,h=>vk h x
 | .oq t x,_,h=>vj h x
 | .fk fs i,_,_=>by simp only [DV.pv];rcases pL fs i with e | ⟨f,e⟩ <;> rw [e] <;> rfl
 | .ptr l _,h,_=>h
 | .lp l _ _ _,h,_=>h
 | .ep t l _ _ _,_,h=>by simp only [DV.pv,am];exact fH h _
 | .gp t l,_,h=>by simp only [DV.pv,am];exact fH h _
 | .sl t l,_,h=>by simp only [DV.pv,am];exact fH h _
 | .fsl q t l,_,h=>by
  simp only [DV.noF,Bool.false_eq_true,false_or] at h
  simp only [DV.pv,am,h,Bool.true_and];exact yZ h (em _)
 | .rw l _ _ _ _ _,h,_=>h
 | .fn _ cs,h,k=>eU (ds:=cs) h k
 | .iface _ v,h,k=>jE (d:=v) h k
 | .agg cs,h,k=>eU (ds:=cs) h k
 | .tup cs,h,k=>eU (ds:=cs) h k
 | .yl i cs,h,k=>by
  simp only [DV.labs,Bool.and_eq_true] at h
  simp only [DV.pv,am,Bool.and_eq_true]
  exact ⟨h.1,eU (ds:=cs) h.2 k⟩
theorem eU {S:Nat->Bool}:∀{ds:List DV},DV.labsL S ds=true->(DV.noFL ds=true\/S flab=true)->ag S (DV.pvs ds)=true
 | [],_,_=>rfl
 | d::r,h,k=>by
  simp only [DV.labsL,Bool.and_eq_true] at h
  simp only [DV.noFL,Bool.and_eq_true] at k
  simp [DV.pvs,ag,jE h.1 (k.imp (·.1) id),eU h.2 (k.imp (·.2) id)]
end
theorem pD {S:Nat->Bool} {d:DV} (h:d.labsN S=true):am S d.pv=true:=by
 simp only [DV.labsN,Bool.and_eq_true,Bool.or_eq_true] at h
 exact jE h.1 h.2
theorem ek {S:Nat->Bool} {ds:List DV} (h:DV.labsLN S ds=true):ag S (DV.pvs ds)=true:=by
 simp only [DV.labsLN,Bool.and_eq_true,Bool.or_eq_true] at h
 exact eU h.1 h.2
mutual
theorem sQ:∀{d:DV},d.noF=true->pureF d.pv=true->iY d.pv=true
 | .dead,_,_=>rfl
 | .int _ _,_,_=>rfl
 | .by _,_,_=>rfl
 | .bool _,_,_=>rfl
 | .str _,_,_=>rfl
 | .nilp,_,_=>rfl
 | .nils,_,_=>rfl
 | .nilf,_,_=>rfl
 | .nili,_,_=>rfl
 | .ev _ _,_,_=>rfl
 | .oi T t x,h,_=>vk (.inl h) x
 | .oq t x,h,_=>vj (.inl h) x
 | .fk fs i,_,_=>by simp only [DV.pv];rcases pL fs i with e | ⟨f,e⟩ <;> rw [e] <;> rfl
 | .ptr l _,_,h=>by simp [DV.pv,pureF] at h
 | .lp l _ _ _,_,h=>by simp [DV.pv,pureF] at h
 | .ep t l _ _ _,h,_=>by simp only [DV.pv,iY,am];exact hY h _
 | .gp t l,h,_=>by simp only [DV.pv,iY,am];exact hY h _
 | .sl t l,h,_=>by simp only [DV.pv,iY,am];exact hY h _
 | .fsl q t l,h,_=>by simp [DV.noF] at h
 | .rw l _ _ _ _ _,_,h=>by simp [DV.pv,pureF] at h
 | .fn _ cs,h,k=>nm (ds:=cs) h (by simpa [DV.pv,pureF] using k)
 | .iface _ v,h,k=>sQ (d:=v) h (by simpa [DV.pv,pureF] using k)
 | .agg cs,h,k=>nm (ds:=cs) h (by simpa [DV.pv,pureF] using k)
 | .tup cs,h,k=>nm (ds:=cs) h (by simpa [DV.pv,pureF] using k)
 | .yl _ _,_,h=>by simp [DV.pv,pureF] at h
theorem nm:∀{ds:List DV},DV.noFL ds=true->bY (DV.pvs ds)=true->ag (fun _=>false) (DV.pvs ds)=true
 | [],_,_=>rfl
 | d::r,h,k=>by
  simp only [DV.noFL,Bool.and_eq_true] at h
  simp only [DV.pvs,bY,Bool.and_eq_true] at k
  have:=sQ h.1 k.1
  simp only [iY] at this
  simp [DV.pvs,ag,this,nm h.2 k.2]
end
theorem Ren.pureL {τ:Nat->Nat} {x y:PV} (h:Ren τ (fun _=>false) x y):pureF x=true:=by
 have key:∀{xs ys:List PV},xs.length=ys.length->(∀(i:Nat) (x y:PV),xs[i]?=some x->ys[i]?=some y->pureF x=true)->bY xs=true:=by
  intro xs ys hl h
  rw [fE,List.all_eq_true]
  intro x hx
  obtain ⟨i,hi⟩:=List.getElem?_of_mem hx
  exact h i x _ hi (List.getElem?_eq_getElem (by rw [<-hl];exact (List.getElem?_eq_some_iff.1 hi).1))
 induction h with
 | pure h=>exact h
 | rw h _=>simp at h
 | ptr h _=>simp at h
 | agg hl _ ih=>exact key hl ih
 | tup hl _ ih=>exact key hl ih
 | fn hl _ ih=>exact key hl ih
 | iface _ ih=>exact ih
 | yld h _ _=>simp at h
 | nilsRo=>rfl
 | nilsFs=>rfl
 | niliEv=>rfl
 | nilsRw h=>simp at h
 | roCo h=>exact h
 | rwCo h _=>simp at h
theorem lA {c:DC} (h:HG c=true) {cells:List PV} (hc:c.pv=some cells):ag (fun _=>false) cells=true:=by
 cases c with
 | gone=>simp [DC.pv] at hc
 | cs cs=>simp [DC.pv] at hc;subst hc;exact ek h
 | ls t l=>simp [DC.pv] at hc;subst hc;exact hY h _
theorem ly {cells:List PV} (h:ag (fun _=>false) cells=true) (a b:Nat):ag (fun _=>false) ((cells.drop a).take b)=true:=by
 rw [ct,List.all_eq_true] at h ⊢
 exact fun x hx=>h x (List.mem_of_mem_drop (List.mem_of_mem_take hx))
def GetB (rl:DLb) (d:DV) (g g':GS) (n:Nat) (mk:(Nat->Nat)->List TV->DV×List TV):Prop:=
 ∃xs,g'.vs=g.vs++xs/\xs.length=n/\∀len rest,(mk len (xs++rest)).2=rest/\ji (dlb rl) d.pv (mk len (xs++rest)).1.pv/\(mk len (xs++rest)).1.ok
def Mf (rl:DLb) (ds:List DV) (g g':GS) (n:Nat) (mk:(Nat->Nat)->List TV->List DV×List TV):Prop:=
 ∃xs,g'.vs=g.vs++xs/\xs.length=n/\∀len rest,(mk len (xs++rest)).2=rest/\((DV.pvs ds).length=(DV.pvs (mk len (xs++rest)).1).length/\∀(i:Nat) (x y:PV),(DV.pvs ds)[i]?=some x->(DV.pvs (mk len (xs++rest)).1)[i]?=some y->ji (dlb rl) x y)/\DV.oks (mk len (xs++rest)).1
theorem ji.aggs {L:Lb} {xs ys:List PV} (hl:xs.length=ys.length) (h:∀(i:Nat) (x y:PV),xs[i]?=some x->ys[i]?=some y->ji L x y) :
  ∃zs:List PV,xs.length=zs.length/\(∀(i:Nat) (x z:PV),xs[i]?=some x->zs[i]?=some z->Out L x z)/\CLe zs ys:=by
 induction xs generalizing ys with
 | nil=>
  have:ys=[]:=List.eq_nil_of_length_eq_zero hl.symm
  subst this;exact ⟨[],rfl,by simp,.nil⟩
 | cons x xs ih=>
  cases ys with
  | nil=>simp at hl
  | cons y ys=>
   obtain ⟨z,h1,h2⟩:=h 0 x y rfl rfl
   obtain ⟨zs,e1,e2,e3⟩:=ih (ys:=ys) (by simpa using hl) fun i a b ha hb=>h (i+1) a b (by simpa using ha) (by simpa using hb)
   refine ⟨z::zs,by simp [e1],fun i a b ha hb=>?_,.cons h2 e3⟩
   cases i with
   | zero=>simp at ha hb;subst ha;subst hb;exact h1
   | succ i=>exact e2 i a b (by simpa using ha) (by simpa using hb)
theorem LR {rl:DLb} {s:Sh} {d:DV} {g g':GS} (h:s.get 0 d g=some g') (hm:g'.m=[]) (hq:g'.q=[]) (hn:d.noF=true):GetB rl d g g' s.n s.mk':=by
 obtain ⟨_,xs,h1,h2,h3⟩:=uH 0 s h
 refine ⟨xs,h1,h2,fun len rest=>?_⟩
 obtain ⟨e1,e2,e3⟩:=h3 len rest id (fun _=>false) (by simp [ym,hm]) (by simp [hq])
 exact ⟨e1,⟨d.pv,.pure (sQ hn e2.pureL),e2.ple⟩,e3⟩
theorem cr {rl:DLb} {s:Sh} {d:DV} {g:GS} {k:GS->Option R} (h:(if d.noF=true then match s.get 0 d g with
  | some g'=>match g'.m,g'.q with
   | [],[]=>k g'
   | _,_=>none
  | none=>none else none)=some r):∃g',k g'=some r/\GetB rl d g g' s.n s.mk':=by
 split at h
 rotate_left
 ·simp at h
 rename_i hn
 split at h
 ·rename_i g' hg
  split at h
  ·rename_i hm hq;exact ⟨g',h,LR hg hm hq hn⟩
  ·simp at h
 ·simp at h
theorem uI {rl:DLb} {t:ET} {d:DV} {g:GS} {x:t.T} (hx:t.one [d]=some x) (hn:d.noF=true):GetB rl d g (g.put ⟨t,x⟩) 1 (Sh.h t).mk':=by
 refine ⟨[⟨t,x⟩],rfl,rfl,fun len rest=>⟨rfl,?_,(Ar (τ:=id) (S:=fun _=>false) hx).2⟩⟩
 have e:=(Ar (τ:=id) (S:=fun _=>false) hx).1
 exact ⟨d.pv,.pure (sQ hn e.pureL),e.ple⟩
theorem ji.ple {L:Lb} {x y z:PV} (h:ji L x y) (h':PLe y z):ji L x z:=let ⟨u,h1,h2⟩:=h;⟨u,h1,h2.trans h'⟩
theorem wC {rl:DLb}:∀{ds:List DV} {k:List DV->Option R},borL rl ds k=some r->∃es,k es=some r/\(DV.pvs ds).length=(DV.pvs es).length/\∀(i:Nat) (x y:PV),(DV.pvs ds)[i]?=some x->(DV.pvs es)[i]?=some y->ji (dlb rl) x y
 | [],k,h=>⟨[],h,rfl,by simp [DV.pvs]⟩
 | d::ds,k,h=>by
  simp only [borL] at h
  split at h
  ·rename_i lab sz off n co w
   split at h
   ·rename_i t y hl
    split at h
    ·rename_i hnf
     obtain ⟨l,cells,hs,h⟩:=iG h
     obtain ⟨es,h1,h2,h3⟩:=wC h
     refine ⟨.sl t l::es,h1,by simp [DV.pvs,h2],fun i x y hx hy=>?_⟩
     cases i with
     | zero=>
      simp [DV.pvs] at hx hy;subst hx;subst hy
      refine Em hs ?_ ⟨_,_,_,_,_,_,rfl⟩
      obtain ⟨cc,e1,_,_,e4,_⟩:=hs.rw _ _ _ _ _ _ rfl
      rw [<-e4]
      rw [an,hl] at e1
      exact ly (lA (c:=.ls t _) hnf (by simpa using e1)) _ _
     | succ i=>exact h3 i x y (by simpa [DV.pvs] using hx) (by simpa [DV.pvs] using hy)
    ·split at h
     ·rename_i t3 _
      obtain ⟨l,h,ho⟩:=Bz h
      obtain ⟨es,h1,h2,h3⟩:=wC h
      refine ⟨.sl (.tl t3) l::es,h1,by simp [DV.pvs,h2],fun i x y hx hy=>?_⟩
      cases i with
      | zero=>simp [DV.pvs] at hx hy;subst hx;subst hy;exact ho
      | succ i=>exact h3 i x y (by simpa [DV.pvs] using hx) (by simpa [DV.pvs] using hy)
     ·simp at h
   ·simp at h
  ·split at h
   ·rename_i hp
    obtain ⟨es,h1,h2,h3⟩:=wC h
    refine ⟨_::es,h1,by simp [DV.pvs,h2],fun i x y hx hy=>?_⟩
    cases i with
    | zero=>
     simp [DV.pvs] at hx hy;subst hx;subst hy
     exact ⟨_,.pure (pD hp),.refl _⟩
    | succ i=>exact h3 i x y (by simpa [DV.pvs] using hx) (by simpa [DV.pvs] using hy)
   ·simp at h
theorem IS {t:ET} {ds:List DV} {x:t.T} (h:t.one ds=some x):CLe (DV.pvs ds) (DV.pvs (t.cells x)):=by
 unfold ET.one at h
 split at h
 ·rename_i y hy
  simp at h;subst h
  obtain ⟨ds',e,hr⟩:=Ad (τ:=id) (S:=fun _=>false) t hy
  rw [List.append_nil] at e;subst e
  rw [kM]
  exact hr.cle
 ·simp at h
theorem GG {rl:DLb} {t:ET} {ds es:List DV} {g:GS} {x:t.T} (hl:(DV.pvs ds).length=(DV.pvs es).length) (ho:∀(i:Nat) (x y:PV),(DV.pvs ds)[i]?=some x->(DV.pvs es)[i]?=some y->ji (dlb rl) x y) (hx:t.one es=some x) :
  GetB rl (.agg ds) g (g.put ⟨t,x⟩) 1 (Sh.st t).mk':=by
 refine ⟨[⟨t,x⟩],rfl,rfl,fun len rest=>⟨rfl,?_,fS t x⟩⟩
 have hc:=IS hx
 obtain ⟨zs,f1,f2,f3⟩:=ji.aggs (ys:=DV.pvs (t.cells x)) (hl.trans hc.1) fun i a b ha hb=>by
  have hi:i<(DV.pvs es).length:=by rw [hc.1];exact (List.getElem?_eq_some_iff.1 hb).1
  have e:=List.getElem?_eq_getElem hi
  exact (ho i a _ ha e).ple (hc.2 i _ b e hb)
 exact ⟨.agg zs,.agg f1 f2,.agg f3⟩
theorem GZ {rl:DLb} {ds:List DV} {t:ET} {x:t.T} (h:t.one ds=some x) (hn:DV.noFL ds=true):∀(i:Nat) (a b:PV),(DV.pvs ds)[i]?=some a->(DV.pvs ds)[i]?=some b->ji (dlb rl) a b:=by
 intro i a b ha hb
 rw [ha] at hb;simp at hb;subst hb
 unfold ET.one at h
 split at h
 ·rename_i y hy
  obtain ⟨ds',e,hr⟩:=Ad (τ:=id) (S:=fun _=>false) t hy
  rw [List.append_nil] at e;subst e
  have h1:=hr.get
  have hi:i<((el t).pv y).length:=by rw [<-h1.1];exact (List.getElem?_eq_some_iff.1 ha).1
  have hF:bY (DV.pvs ds)=true:=by
   rw [fE,List.all_eq_true]
   intro z hz
   obtain ⟨j,hj⟩:=List.getElem?_of_mem hz
   have hj2:j<((el t).pv y).length:=by rw [<-h1.1];exact (List.getElem?_eq_some_iff.1 hj).1
   exact (h1.2 j z _ hj (List.getElem?_eq_getElem hj2)).pureL
  exact ⟨_,.pure (az (nm hn hF) ha),.refl _⟩
 ·simp at h
theorem Ey {rl:DLb} {t:ET} {l:Nat} {k:t.T->Option R} {r:R} (h:outP rl t l k=some r):∃x,k x=some r/\ji (dlb rl) (.ptr l 0) (.rop ((el t).pv x) 0):=by
 unfold outP at h
 split at h
 ·rename_i cs hl
  split at h
  ·rename_i hp
   split at h
   ·rename_i x hx
    exact ⟨x,h,_,.ptr (cells:=DV.pvs cs) (by rw [an,hl];rfl) (ek hp),.rop (Di hx)⟩
   ·simp at h
  ·simp at h
 ·simp at h
mutual
theorem EK {rl:DLb}:∀(s:Sh) {d:DV} {g:GS} {k:GS->Option R},s.getB rl d g k=some r->∃g',k g'=some r/\GetB rl d g g' s.n s.mk'
 | .h t,d,g,k,h=>by
  cases t with
  | tl t=>
   simp only [Sh.getB] at h
   split at h
   ·rename_i lab sz off n co w
    split at h
    ·rename_i hp
     obtain ⟨l,cells,hs,h⟩:=iG h
     refine ⟨_,h,[⟨.tl t,l⟩],rfl,rfl,fun len rest=>⟨rfl,Em hs ?_ ⟨_,_,_,_,_,_,rfl⟩,trivial⟩⟩
     obtain ⟨cc,h1,_,_,h4,_⟩:=hs.rw _ _ _ _ _ _ rfl
     rw [<-h4]
     unfold mN at hp
     split at hp
     ·rename_i c hc
      rw [an,hc] at h1
      exact ly (lA hp (by simpa using h1)) _ _
     ·simp at hp
    ·obtain ⟨l,h,ho⟩:=Bz h
     exact ⟨_,h,[⟨.tl t,l⟩],rfl,rfl,fun len rest=>⟨rfl,ho,trivial⟩⟩
   ·rename_i q t' x
    split at h
    ·rename_i e;subst e
     split at h
     ·rename_i hn
      exact ⟨_,h,[⟨.tl t',x⟩],rfl,rfl,fun len rest=>⟨rfl,⟨_,.fam (EL (hY hn x)),.refl _⟩,trivial⟩⟩
     ·simp at h
    ·simp at h
   ·split at h
    ·rename_i hn
     split at h
     ·rename_i x hx;exact ⟨_,h,uI hx hn⟩
     ·simp at h
    ·simp at h
  | ti k'=>simp only [Sh.getB] at h;exact cr h
  | tu=>simp only [Sh.getB] at h;exact cr h
  | tb=>simp only [Sh.getB] at h;exact cr h
  | ts=>simp only [Sh.getB] at h;exact cr h
  | tn=>simp only [Sh.getB] at h;exact cr h
  | tp a c=>simp only [Sh.getB] at h;exact cr h
  | tf q t=>simp only [Sh.getB] at h;exact cr h
  | te T=>simp only [Sh.getB] at h;exact cr h
  | tk fs=>simp only [Sh.getB] at h;exact cr h
  | to T t=>
   simp only [Sh.getB] at h
   split at h
   ·rename_i T' l
    split at h
    ·rename_i e;subst e
     obtain ⟨x,h,z,h1,h2⟩:=Ey h
     exact ⟨_,h,[⟨.to T' t,some x⟩],rfl,rfl,fun len rest=>⟨rfl,⟨_,.iface h1,.iface h2⟩,trivial⟩⟩
    ·simp at h
   ·split at h
    ·rename_i hn
     split at h
     ·rename_i x hx;exact ⟨_,h,uI hx hn⟩
     ·simp at h
    ·simp at h
  | tq t=>
   simp only [Sh.getB] at h
   split at h
   ·rename_i l
    obtain ⟨x,h,z,h1,h2⟩:=Ey h
    exact ⟨_,h,[⟨.tq t,some x⟩],rfl,rfl,fun len rest=>⟨rfl,⟨_,h1,h2⟩,trivial⟩⟩
   ·split at h
    ·rename_i hn
     split at h
     ·rename_i x hx;exact ⟨_,h,uI hx hn⟩
     ·simp at h
    ·simp at h
 | .agg cs,d,g,k,h=>by
  simp only [Sh.getB] at h
  split at h
  ·rename_i ds
   obtain ⟨g',h,xs,h1,h2,h3⟩:=tw cs h
   refine ⟨g',h,xs,h1,h2,fun len rest=>?_⟩
   obtain ⟨e1,e2,e3⟩:=h3 len rest
   obtain ⟨zs,f1,f2,f3⟩:=ji.aggs e2.1 e2.2
   exact ⟨e1,⟨.agg zs,.agg f1 f2,.agg f3⟩,e3⟩
  ·simp at h
 | .tup cs,d,g,k,h=>by
  simp only [Sh.getB] at h
  split at h
  ·rename_i ds
   obtain ⟨g',h,xs,h1,h2,h3⟩:=tw cs h
   refine ⟨g',h,xs,h1,h2,fun len rest=>?_⟩
   obtain ⟨e1,e2,e3⟩:=h3 len rest
   obtain ⟨zs,f1,f2,f3⟩:=ji.aggs e2.1 e2.2
   exact ⟨e1,⟨.tup zs,.tup f1 f2,.tup f3⟩,e3⟩
  ·simp at h
 | .k c,d,g,k,h=>by simp only [Sh.getB] at h;exact cr h
 | .st t,d,g,k,h=>by
  simp only [Sh.getB] at h
  split at h
  ·rename_i ds
   split at h
   ·obtain ⟨es,h,h1,h2⟩:=wC h
    split at h
    ·rename_i x hx;exact ⟨_,h,GG h1 h2 hx⟩
    ·simp at h
   ·split at h
    ·rename_i hn
     split at h
     ·rename_i x hx;exact ⟨_,h,GG rfl (GZ hx hn) hx⟩
     ·simp at h
    ·simp at h
  ·simp at h
 | .ptr l o,d,g,k,h=>by simp only [Sh.getB] at h;exact cr h
 | .rww l o,d,g,k,h=>by simp only [Sh.getB] at h;exact cr h
 | .rwf l o,d,g,k,h=>by simp only [Sh.getB] at h;exact cr h
 | .fn f cs,d,g,k,h=>by simp only [Sh.getB] at h;exact cr h
 | .iface t s,d,g,k,h=>by simp only [Sh.getB] at h;exact cr h
theorem tw {rl:DLb}:∀(ss:List Sh) {ds:List DV} {g:GS} {k:GS->Option R},Sh.getBs rl ss ds g k=some r->∃g',k g'=some r/\Mf rl ds g g' (Sh.ns ss) (fun len vs=>Sh.mks len ss vs)
 | [],ds,g,k,h=>by
  simp only [Sh.getBs] at h
  split at h
  ·exact ⟨g,h,[],by simp,rfl,fun len rest=>⟨rfl,⟨rfl,by simp [DV.pvs]⟩,trivial⟩⟩
  ·simp at h
 | s::ss,ds,g,k,h=>by
  simp only [Sh.getBs] at h
  split at h
  ·simp at h
  ·rename_i d ds
   obtain ⟨g1,h,xs,h1,h2,h3⟩:=EK s h
   obtain ⟨g2,h,ys,k1,k2,k3⟩:=tw ss h
   refine ⟨g2,h,xs++ys,by rw [k1,h1,List.append_assoc],by simp [h2,k2,Sh.ns],fun len rest=>?_⟩
   obtain ⟨e1,e2,e3⟩:=h3 len (ys++rest)
   obtain ⟨f1,f2,f3⟩:=k3 len rest
   simp only [Sh.mk'] at e1 e2 e3
   simp only [Sh.mks,List.append_assoc]
   rw [e1]
   refine ⟨f1,⟨by simp [DV.pvs,f2.1],fun i x y hx hy=>?_⟩,e3,f3⟩
   cases i with
   | zero=>simp [DV.pvs] at hx hy;subst hx;subst hy;exact e2
   | succ i=>exact f2.2 i x y (by simpa [DV.pvs] using hx) (by simpa [DV.pvs] using hy)
end
end
end Go.SH
namespace Go.SH
variable [SentA]
theorem dQ.argsLe {E:Env} {f:FuncId} {xs ys:List PV} {L:Lb} {Q:PV->Lb->Prop} (h:dQ E f ys L Q) (hl:CLe xs ys):dQ E f xs L Q:=by
 intro A w σ cargs hlen hv hb hg
 refine h A w σ cargs (hlen.trans hl.1) (fun i y v hy hc=>?_) hb hg
 have hi:i<xs.length:=by rw [hl.1];exact (List.getElem?_eq_some_iff.1 hy).1
 exact hl.2 i _ y (List.getElem?_eq_getElem hi) hy _ _ _ _ (hv i _ v (List.getElem?_eq_getElem hi) hc)
structure PCon (E:Env) where
 f:FuncId
 ar:List Sh
 out:Sh
 fn:HT (Sh.hss ar)->Option (HT out.hs)
 run:∀args w,(callFunc f args).run E.P w = .ok (.enter f args) w
 ok:∀a v,fn a=some v->Pure E f (DV.pvs (Sh.mks (fun _=>0) ar (ab _ a)).1) (out.mk (fun _=>0) (ab _ v)).1.pv
def dz0:Nat->Nat:=fun _=>0
section
variable {E:Env} {d:Option Tmp} {ty:TypeId} {pos:String} {after:Array Edge} {g:Option (Nat×Bool)} {ra:DAl} {rl:DLb} {R:Type} {r:R} {G:GTab} {k:DV->DLb->DL->Option R}
def AS:DV->Bool
 | .dead=>true
 | .nilp=>true
 | .nils=>true
 | .nilf=>true
 | .nili=>true
 | .int _ _=>true
 | .bool _=>true
 | .str _=>true
 | _=>false
theorem DX {d:DV} (h:AS d=true):d.ok:=by cases d <;> simp [AS] at h <;> trivial
theorem G0 (t:ET) (x:t.T):(vm (t.cells x)).ok:=by
 unfold vm
 split
 ·rename_i d hd;have:=fS t x;rw [hd] at this;exact this.1
 ·trivial
mutual
def Sh.kOK:Sh->Bool
 | .k c=>AS c
 | .fn _ cs=>Sh.kOKs cs
 | .iface _ s=>s.kOK
 | .agg cs=>Sh.kOKs cs
 | .tup cs=>Sh.kOKs cs
 | _=>true
def Sh.kOKs:List Sh->Bool
 | []=>true
 | s::r=>s.kOK&&Sh.kOKs r
end
mutual
theorem BV (len:Nat->Nat):∀(s:Sh) (vs:List TV),s.kOK=true->(s.mk len vs).1.ok
 | .h t,vs,_=>by
  simp only [Sh.mk]
  split
  ·exact G0 _ _
  ·trivial
 | .st t,vs,_=>by
  simp only [Sh.mk]
  split
  ·exact fS _ _
  ·trivial
 | .k c,vs,h=>DX h
 | .ptr _ _,_,_=>trivial
 | .rww _ _,_,_=>trivial
 | .rwf _ _,_,_=>trivial
 | .fn f cs,vs,h=>lH len cs vs h
 | .iface t s,vs,h=>BV len s vs h
 | .agg cs,vs,h=>lH len cs vs h
 | .tup cs,vs,h=>lH len cs vs h
theorem lH (len:Nat->Nat):∀(ss:List Sh) (vs:List TV),Sh.kOKs ss=true->DV.oks (Sh.mks len ss vs).1
 | [],_,_=>trivial
 | s::ss,vs,h=>by
  simp only [Sh.kOKs,Bool.and_eq_true] at h
  exact ⟨BV len s vs h.1,lH len ss _ h.2⟩
end
def ET.noRo:ET->Bool
 | .tp a c=>a.noRo&&c.noRo
 | .tl _=>false
 | .tf _ _=>false
 | .te _=>false
 | .to _ _=>false
 | .tq _=>false
 | _=>true
theorem sO {xs ys:List PV}:kD (xs++ys)=(kD xs&&kD ys):=by
 induction xs with
 | nil=>rfl
 | cons x xs ih=>simp [kD,ih,Bool.and_assoc]
theorem Je:∀(t:ET),t.noRo=true->∀x:t.T,kD ((el t).pv x)=true:=by
 intro t
 induction t with
 | tp a c iha ihc=>
  intro h x
  simp only [ET.noRo,Bool.and_eq_true] at h
  show kD ((el a).pv x.1++(el c).pv x.2)=true
  rw [sO,iha h.1,ihc h.2];rfl
 | tl t _=>intro h;simp [ET.noRo] at h
 | tf q t _=>intro h;simp [ET.noRo] at h
 | to T t _=>intro h;simp [ET.noRo] at h
 | tq t _=>intro h;simp [ET.noRo] at h
 | te T=>intro h;simp [ET.noRo] at h
 | ti k=>intro _ x;rfl
 | tu=>intro _ x;rfl
 | tb=>intro _ x;rfl
 | ts=>intro _ x;rfl
 | tn=>intro _ x;rfl
 | tk fs=>
  intro _ x
  show kD [fnK fs x]=true
  rcases pL fs x with e | ⟨f,e⟩ <;> rw [e] <;> rfl
theorem I9 {t:ET} (h:t.noRo=true) (l:List t.T):kD (fl (el t) l)=true:=by
 induction l with
 | nil=>rfl
 | cons x l ih=>rw [cj,sO,Je t h,ih];rfl
mutual
def DV.noRoK:DV->Bool
 | .dead=>true
 | .int _ _=>true
 | .by _=>true
 | .bool _=>true
 | .str _=>true
 | .nilp=>true
 | .nils=>true
 | .nilf=>true
 | .nili=>true
 | .fk _ _=>true
 | .fsl _ t _=>t.noRo
 | .agg cs=>DV.noRoKL cs
 | .tup cs=>DV.noRoKL cs
 | .iface _ v=>v.noRoK
 | .fn _ cs=>DV.noRoKL cs
 | _=>false
def DV.noRoKL:List DV->Bool
 | []=>true
 | d::r=>d.noRoK&&DV.noRoKL r
end
mutual
theorem xg:∀{d:DV},d.noRoK=true->noRo d.pv=true
 | .dead,_=>rfl
 | .int _ _,_=>rfl
 | .by _,_=>rfl
 | .bool _,_=>rfl
 | .str _,_=>rfl
 | .nilp,_=>rfl
 | .nils,_=>rfl
 | .nilf,_=>rfl
 | .nili,_=>rfl
 | .ev _ _,h=>by simp [DV.noRoK] at h
 | .oi _ _ _,h=>by simp [DV.noRoK] at h
 | .oq _ _,h=>by simp [DV.noRoK] at h
 | .fk fs i,_=>by simp only [DV.pv];rcases pL fs i with e | ⟨f,e⟩ <;> rw [e] <;> rfl
 | .fsl q t l,h=>by simp only [DV.pv,noRo];exact I9 h l
 | .agg cs,h=>by simp only [DV.pv,noRo];exact qf (ds:=cs) h
 | .tup cs,h=>by simp only [DV.pv,noRo];exact qf (ds:=cs) h
 | .iface _ v,h=>by simp only [DV.pv,noRo];exact xg (d:=v) h
 | .fn _ cs,h=>by simp only [DV.pv,noRo];exact qf (ds:=cs) h
 | .ptr _ _,h=>by simp [DV.noRoK] at h
 | .lp _ _ _ _,h=>by simp [DV.noRoK] at h
 | .ep _ _ _ _ _,h=>by simp [DV.noRoK] at h
 | .gp _ _,h=>by simp [DV.noRoK] at h
 | .sl _ _,h=>by simp [DV.noRoK] at h
 | .rw _ _ _ _ _ _,h=>by simp [DV.noRoK] at h
 | .yl _ _,h=>by simp [DV.noRoK] at h
theorem qf:∀{ds:List DV},DV.noRoKL ds=true->kD (DV.pvs ds)=true
 | [],_=>rfl
 | d::r,h=>by
  simp only [DV.noRoKL,Bool.and_eq_true] at h
  simp [DV.pvs,kD,xg h.1,qf h.2]
end
def DS (rl:DLb) (con:PCon E) (f:FuncId) (args:List DV) (k:DV->DLb->DL->Option R):Option R:=
 if con.f=f/\con.out.kOK=true then Sh.getBs rl con.ar args ⟨[],[],[]⟩ fun g=>match pack (Sh.hss con.ar) g.vs with
  | some a=>(con.fn a).bind fun v=>if (DV.labsLN (fun _=>false) args||(con.out.mk dz0 (ab _ v)).1.noRoK)=true then k (con.out.mk dz0 (ab _ v)).1 [] [] else none
  | none=>none else none
theorem FU (hG:E.G=gtPV G) (hE:GOK E) (hal:alOk ra) {con:PCon E} {f:FuncId} {fo:Operand} {args:Array Operand} {ts:Array TypeId} {caps xs:List DV} (hf:dev G ra fo=some (.fn f caps)) (hx:devs G ra args.toList=some xs)
  (h:DS rl con f (xs++caps) k=some r):OpS E ⟨d,.call ⟨.value fo,args,ts⟩,ty,pos,after,g⟩ ra rl k r:=by
 obtain ⟨hf',hfo⟩:=bj hal hf
 obtain ⟨hx',hxo⟩:=qo hal hx
 rw [<-hG] at hf' hx'
 unfold DS at h
 split at h
 ·rename_i e;obtain ⟨e,ho⟩:=e;subst e
  obtain ⟨g',h,as_,h1,h2,h3⟩:=tw con.ar h
  split at h
  ·rename_i a ha
   obtain ⟨v,hv,h⟩:=bind_some h
   split at h
   ·rename_i hp
    have hu:=sK ha
    obtain ⟨_,hB,_⟩:=h3 (fun _=>0) []
    have h1':g'.vs=as_:=by rw [h1];rfl
    rw [List.append_nil,<-h1',<-hu] at hB
    have hP:=con.ok a v hv
    obtain ⟨zs,z1,z2,z3⟩:=ji.aggs hB.1 hB.2
    have hA:=CY (d:=d) (ty:=ty) (pos:=pos) (after:=after) (g:=g) (ts:=ts) (rl:=dlb rl) (v:=(con.out.mk dz0 (ab _ v)).1.pv) hf' hx' con.run hE (by rw [bO] at z1;exact z1) (by rw [bO] at z2;exact z2) (hP.argsLe z3) (by
     simp only [Bool.or_eq_true] at hp
     rcases hp with hp | hp
     ·left;have:=ek hp;rwa [bO] at this
     ·exact .inr (xg hp))
    exact .val hA (BV _ _ _ ho) h
   ·simp at h
  ·simp at h
 ·simp at h
theorem In {t:ET} {z:List DV} {x:t.T} {c:Nat} (hz:z.length=t.sz) (hx:CLe (DV.pvs z) ((el t).pv x)):CLe (zrow (DV.pvs z) (c*t.sz)) (fl (el t) (List.replicate c x)):=by
 have hl:(zrow (DV.pvs z) (c*t.sz)).length=c*t.sz:=by simp [zrow]
 refine ⟨by rw [hl,bD,jg];simp,fun i a b ha hb=>?_⟩
 have hi:i<c*t.sz:=by rw [<-hl];exact (List.getElem?_eq_some_iff.1 ha).1
 have hm:i % t.sz<t.sz:=Nat.mod_lt _ t.sz_pos
 have hq:i / t.sz<c:=Nat.div_lt_of_lt_mul (by rw [Nat.mul_comm];exact hi)
 have e:i=i / t.sz*(el t).sz+i % t.sz:=by rw [jg,Nat.mul_comm];exact (Nat.div_add_mod i t.sz).symm
 rw [e,AD (by rw [List.getElem?_replicate,if_pos hq]) (by rw [jg];exact hm)] at hb
 simp only [zrow,List.getElem?_map,List.getElem?_range hi,Option.map_some,Option.some.injEq,aB,hz] at ha
 have hzl:i % t.sz<(DV.pvs z).length:=by rw [aB,hz];exact hm
 have ha':(DV.pvs z)[i % t.sz]?=some a:=by
  rw [<-ha,List.getD_eq_getElem?_getD,List.getElem?_eq_getElem hzl];rfl
 exact hx.2 _ a b ha' hb
def LK:Operand->Operand->Bool
 | .tmp a,.tmp b=>Nat.beq a b
 | _,_=>false
def rT (P:Program) (fq:Nat) (nl:Nat) (T:TypeId) (w:Bool) (x y:DV) (k:DV->DLb->DL->Option R):Option R:=match AH P fq T with
 | some (ie,z,t)=>match t.one z with
  | some z0=>match lg x,lg y with
   | some (_,n),some (_,c)=>req (0<=n/\n<=c/\c.toNat*ie.bytes<=aI) (k (.rw nl t.sz 0 n.toNat (some c.toNat) w) [(nl,.ls t (List.replicate c.toNat z0))] [(nl,none)])
   | _,_=>none
  | none=>none
 | none=>none
theorem yN {fq:Nat} (hG:E.G=gtPV G) (hal:alOk ra) {nl:Nat} (hn:lget rl nl=none) {T:TypeId} {x y:Operand} {w:Bool} {a b:DV} (hx:dev G ra x=some a) (hy:dev G ra y=some b)
  (h:rT E.P fq nl T w a b k=some r):OpS E ⟨d,.makeSlice T x y,ty,pos,after,g⟩ ra rl k r:=by
 have hx':=(bj hal hx).1
 have hy':=(bj hal hy).1
 rw [<-hG] at hx' hy'
 unfold rT at h
 split at h
 ·rename_i ie z t he
  obtain ⟨e,hu,hie,hz,hz2,hzl,hpos,hsz,hby⟩:=zD he
  split at h
  ·rename_i z0 hz0
   split at h
   ·rename_i _ n _ c ha hb
    obtain ⟨⟨h0,h1,h2⟩,h⟩:=cR h
    rw [iA ha,show n=((n.toNat:Nat):Int) from by omega] at hx'
    rw [iA hb,show c=((c.toNat:Nat):Int) from by omega] at hy'
    unfold aI at h2
    have hc2:c.toNat<=9223372036854775807:=Nat.le_trans (Nat.le_mul_of_pos_right _ hby) (by omega)
    have hA:=yU (d:=d) (ty:=ty) (pos:=pos) (after:=after) (g:=g) (rl:=dlb rl) nl hx' hy' hu hie hz (by rw [aB];exact hzl) hpos (by omega) h2 hc2 (by simp [an,hn])
    refine ⟨.rw nl t.sz 0 n.toNat (some c.toNat) w,[(nl,.ls t (List.replicate c.toNat z0))],_,AOp.weak hA ?_ (.one ?_),trivial,?_,?_,h⟩
    ·rw [hsz];simp [DV.pv];exact .refl _
    ·rw [hsz];exact In (by rw [hzl,hsz]) (Di hz0)
    ·intro p hp;simp at hp;subst hp;trivial
    ·intro p hp;simp at hp;subst hp;exact .inl (by simp)
   ·simp at h
  ·simp at h
 ·simp at h
def HR (P:Program) (rl:DLb) (nl:Nat) (s t:TypeId) (a:DV) (k:DV->DLb->DL->Option R):Option R:=match P.underlying t with
 | some (.int kk)=>match lg a with
  | some (_,n)=>match P.underlying s with
   | some _=>k (ofInt kk (kk.wrap n)) [] []
   | none=>none
  | none=>none
 | some .string=>match P.underlying s with
  | some .string=>match a with
   | .str bs=>k (.str bs) [] []
   | _=>none
  | some (.slice e)=>match P.underlying e with
   | some (.int .u8)=>srcL rl .tu a fun bs=>k (.str bs) [] []
   | some (.int .i32)=>srcL rl (.ti .i32) a fun ns=>k (.str (bQ ns)) [] []
   | _=>none
  | some (.int _)=>match lg a with
   | some (_,n)=>k (.str (bQ [n])) [] []
   | none=>none
  | _=>none
 | some (.slice e)=>match P.underlying e with
  | some (.int .u8)=>match P.underlying s with
   | some .string=>match a with
    | .str bs=>k (.rw nl 1 0 bs.length none true) [(nl,.ls .tu bs)] [(nl,none)]
    | _=>none
   | some (.slice _)=>match Nat.beq s t with
    | true=>match a with
     | .rw lab sz off n co w=>match Nat.beq n 0 with
      | false=>match lget rl lab with
       | some (.cs cs)=>k (.rw lab sz off n co w) [(lab,.cs cs)] [(lab,none)]
       | some (.ls tt l)=>k (.rw lab sz off n co w) [(lab,.ls tt l)] [(lab,none)]
       | _=>none
      | true=>none
     | _=>none
    | false=>none
   | _=>none
  | _=>none
 | _=>none
theorem Ec {s t:TypeId} {x:Operand} {kk kx:IntKind} {n:Int} (hx:xev E.G (dal ra) x=some (.int kx n)) (hs:E.P.underlying s=some (.int kk)) (ht:E.P.underlying t=some .string) :
  AOp E ⟨d,.convert s t x,ty,pos,after,g⟩ (dal ra) (dlb rl) (.str (bQ [n])) []:=by
 refine bA fun A w σ al L a r h1 h2=>?_
 have hv:=aQ r h1 hx
 generalize he:a.eval x=v at hv
 cases hv
 refine ⟨.string (Utf8.encode n),by simp [execOp,convert,he,run_underlying hs,run_underlying ht,Conv.intToString],?_⟩
 have:(⟨⟨bQ [n]⟩⟩:ByteArray)=Utf8.encode n:=by simp [bQ]
 rw [<-this];exact .str _
theorem HQ (hG:E.G=gtPV G) (hal:alOk ra) (hrl:lbOk rl) {nl:Nat} (hn:lget rl nl=none) {s t:TypeId} {x:Operand} {a:DV} (hx:dev G ra x=some a)
  (h:HR E.P rl nl s t a k=some r):OpS E ⟨d,.convert s t x,ty,pos,after,g⟩ ra rl k r:=by
 have hx':=(bj hal hx).1
 rw [<-hG] at hx'
 unfold HR at h
 split at h
 ·rename_i kk hu
  split at h
  ·rename_i _ n ha
   split at h
   ·rename_i _ hs
    rw [iA ha] at hx'
    refine .val (AOp.weak (pZ hx' (q:=.int kk (kk.wrap n)) (by simp [Bp,hs,hu])) ?_ .nil) (nj _ _) h
    rw [ni (fun e=>by subst e;exact ey _)];exact .refl _
   ·simp at h
  ·simp at h
 ·rename_i hu
  split at h
  ·rename_i hs
   split at h
   ·exact .val (x:=.str _) (pZ hx' (by simp [Bp,hs,hu,DV.pv])) trivial h
   ·simp at h
  ·rename_i e hs
   split at h
   ·rename_i he
    obtain ⟨bs,cells,hc,h⟩:=iG h
    have e1:=hc.u8 (.inl rfl)
    have e2:=hc.slc
    rw [e1,show fl (el .tu) bs=tR bs from (rZ bs).symm] at e2
    exact .val (x:=.str bs) (Bj hx' hs he hu e2) trivial h
   ·rename_i he
    obtain ⟨ns,cells,hc,h⟩:=iG h
    have e1:=hc.u8 (.inr rfl)
    have e2:=hc.slc
    rw [e1,EN] at e2
    exact .val (x:=.str (bQ ns)) (Bi hx' hs he hu e2) trivial h
   ·simp at h
  ·rename_i hs
   split at h
   ·rename_i n ha
    rw [iA ha] at hx'
    exact .val (x:=.str (bQ [n])) (Ec hx' hs hu) trivial h
   ·simp at h
  ·simp at h
 ·rename_i e hu
  split at h
  ·rename_i he
   split at h
   ·rename_i hs
    split at h
    ·rename_i bs
     refine .new (x:=.rw nl 1 0 bs.length none true) (c:=.ls .tu bs) ?_ trivial trivial h
     have:=Bf (d:=d) (ty:=ty) (pos:=pos) (after:=after) (g:=g) (rl:=dlb rl) nl hx' hs hu he (by simp [an,hn])
     simpa [DV.pv,DC.pv,el] using this
    ·simp at h
   ·rename_i hs
    split at h
    rotate_left
    ·simp at h
    rename_i hst
    have hst:=Nat.eq_of_beq_eq_true hst
    subst hst
    split at h
    rotate_left
    ·simp at h
    rename_i lab sz off n co w
    split at h
    rotate_left
    ·simp at h
    rename_i hn0
    have hn0:n≠0:=fun e=>by subst e;simp at hn0
    split at h
    ·rename_i cs hl
     refine ⟨.rw lab sz off n co w,_,_,CX (cells:=DV.pvs cs) hx' (by rw [an,hl];rfl) hu he hn0,trivial,?_,?_,h⟩
     ·intro p hp;simp at hp;subst hp;exact hrl _ _ hl
     ·intro p hp;simp at hp;subst hp;exact .inl (by simp)
    ·rename_i tt l hl
     refine ⟨.rw lab sz off n co w,_,_,CX (cells:=fl (el tt) l) hx' (by rw [an,hl];rfl) hu he hn0,trivial,?_,?_,h⟩
     ·intro p hp;simp at hp;subst hp;trivial
     ·intro p hp;simp at hp;subst hp;exact .inl (by simp)
    ·simp at h
   ·simp at h
  ·simp at h
 ·simp at h
structure OH where
 split:Bool:=false
 sel:Bool:=false
 fz:List (Nat×ET):=[]
 con:Nat:=0
 io:Option Nat:=none
 nq:Bool:=false
 sw:Bool:=false
 wk:Bool:=false
 fq:Nat:=0
 yi:Option Nat:=none
 alt:Option Nat:=none
 ios:List (Nat×Nat):=[]
def dOp (E:Env) (G:GTab) (C:Nat->Option (PCon E)) (oh:OH) (o:Oper) (al:DAl) (L:DLb) (nl:Nat) (k:DV->DLb->DL->Option R):Option R:=match o.op with
 | .move x=>match dev G al x with
  | some v=>k v [] []
  | none=>none
 | .assign x=>match dev G al x with
  | some v=>k v [] []
  | none=>none
 | .pick c x y=>HL G al c x y k
 | .binOp op T x y _=>match dev G al x,dev G al y with
  | some a,some b=>dBin E.P op T x y a b fun v=>k v [] []
  | _,_=>none
 | .unOp op _ x=>match dev G al x with
  | some a=>dUn op a fun v=>k v [] []
  | none=>none
 | .convert s t x=>match dev G al x with
  | some a=>HR E.P L nl s t a k
  | none=>none
 | .load T p=>match dev G al p with
  | some q=>HN E.P T L q fun v=>k v [] []
  | none=>none
 | .store T p v=>match o.dst with
  | none=>match dev G al p,dev G al v with
   | some a,some b=>DN E.P T L a b k
   | _,_=>none
  | some _=>none
 | .box _ x=>match dev G al x with
  | some v=>dBox nl v k
  | none=>none
 | .alloc T=>DW E.P T nl k
 | .build T ps=>DT E.P G al T ps.toList k
 | .buildSlice T len ps=>pR E.P G al nl T len ps.toList k
 | .fieldAddr S x f=>match dev G al x with
  | some p=>rW E.P S f p k
  | none=>none
 | .field S x f=>match dev G al x with
  | some p=>DQ E.P S f p k
  | none=>none
 | .extract x i=>match dev G al x with
  | some p=>ya p i k
  | none=>none
 | .makeFunc (.func f) first caps=>match first with
  | ⟨[]⟩=>uR G al f caps.toList k
  | _=>none
 | .makeInterface T x=>match dev G al x with
  | some p=>rU E.P T p k
  | none=>none
 | .nilCheck x=>match dev G al x with
  | some p=>uQ p k
  | none=>none
 | .indexAddr T x ix=>match dev G al x,dev G al ix with
  | some p,some q=>match lg q with
   | some (_,i)=>rV E.P oh.sel T L p i k
   | none=>none
  | _,_=>none
 | .index T x ix=>match dev G al x,dev G al ix with
  | some p,some q=>match lg q with
   | some (_,i)=>DP E.P oh.sel T p i k
   | none=>none
  | _,_=>none
 | .slice T x lo hi mx=>match mx with
  | none=>match dev G al x with
   | some p=>DO E.P G al T L p lo hi k
   | none=>none
  | some _=>none
 | .makeSlice T x y=>match dev G al x,dev G al y with
  | some a,some b=>rT E.P oh.fq nl T (LK x y) a b k
  | _,_=>none
 | .call ⟨.builtin .len,⟨[x]⟩,⟨[t]⟩⟩=>dLen E.P t (dev G al x) k
 | .call ⟨.builtin .min,xs,_⟩=>wz false G al xs.toList k
 | .call ⟨.builtin .max,xs,_⟩=>wz true G al xs.toList k
 | .call ⟨.builtin .append,⟨[x,y]⟩,⟨[T,tx]⟩⟩=>match dev G al x,dev G al y with
  | some p,some q=>AR E.P oh.fq L nl T tx p q k
  | _,_=>none
 | .call ⟨.builtin .copy,⟨[x,y]⟩,⟨[T,_]⟩⟩=>match dev G al x,dev G al y with
  | some p,some q=>HP E.P L T p q k
  | _,_=>none
 | .call ⟨.value fo,args,_⟩=>match dev G al fo with
  | some (.fn f caps)=>match devs G al args.toList with
   | some xs=>match C oh.con with
    | some con=>DS L con f (xs++caps) k
    | none=>none
   | none=>none
  | _=>none
 | _=>none
theorem KD (hG:E.G=gtPV G) (hE:GOK E) {C:Nat->Option (PCon E)} {oh:OH} {o:Oper} {nl:Nat} (hal:alOk ra) (hrl:lbOk rl) (hn:lget rl nl=none) (h:dOp E G C oh o ra rl nl k=some r):OpS E o ra rl k r:=by
 obtain ⟨dst,op,ty,pos,after,g⟩:=o
 unfold dOp at h
 simp only at h
 split at h
 case h_1 x=>
  split at h
  ·rename_i v hv;obtain ⟨h1,h2⟩:=bj hal hv;rw [<-hG] at h1;exact .val (CW h1) h2 h
  ·simp at h
 case h_2 x=>
  split at h
  ·rename_i v hv;obtain ⟨h1,h2⟩:=bj hal hv;rw [<-hG] at h1;exact .val (sc h1) h2 h
  ·simp at h
 case h_3=>exact HK hG hal h
 case h_4=>
  split at h
  ·rename_i a b ha hb;exact Jk hG hal ha hb h
  ·simp at h
 case h_5=>
  split at h
  ·rename_i a ha;exact KC hG hal ha h
  ·simp at h
 case h_6=>
  split at h
  ·rename_i a ha;exact HQ hG hal hrl hn ha h
  ·simp at h
 case h_7=>
  split at h
  ·rename_i a ha;exact HM hG hal hrl ha h
  ·simp at h
 case h_8=>
  split at h
  ·split at h
   ·rename_i a b ha hb;exact FP hG hal hrl ha hb h
   ·simp at h
  ·simp at h
 case h_9=>
  split at h
  ·rename_i a ha;exact Jj hG hal hn ha h
  ·simp at h
 case h_10=>exact FX hn h
 case h_11=>exact FW hG hal h
 case h_12=>exact yc hG hal hn h
 case h_13=>
  split at h
  ·rename_i a ha;exact yQ hG hal ha h
  ·simp at h
 case h_14=>
  split at h
  ·rename_i a ha;exact FT hG hal ha h
  ·simp at h
 case h_15=>
  split at h
  ·rename_i a ha;exact Cu hG hal ha h
  ·simp at h
 case h_16=>
  split at h
  ·exact AP hG hal h
  ·simp at h
 case h_17=>
  split at h
  ·rename_i a ha;exact yO hG hal ha h
  ·simp at h
 case h_18=>
  split at h
  ·rename_i a ha;exact AN hG hal ha h
  ·simp at h
 case h_19=>
  split at h
  ·rename_i a b ha hb
   split at h
   ·rename_i _ i hi;exact yP hG hal ha hb hi h
   ·simp at h
  ·simp at h
 case h_20=>
  split at h
  ·rename_i a b ha hb
   split at h
   ·rename_i _ i hi;exact FS hG hal ha hb hi h
   ·simp at h
  ·simp at h
 case h_21=>
  split at h
  ·split at h
   ·rename_i a ha;exact FQ hG hal ha h
   ·simp at h
  ·simp at h
 case h_22=>
  split at h
  ·rename_i a b ha hb;exact yN hG hal hn ha hb h
  ·simp at h
 case h_23=>exact Ji hG hal (fun q hq=>hq) h
 case h_24=>exact xY (mx:=false) hG hal h
 case h_25=>exact xY (mx:=true) hG hal h
 case h_26=>
  split at h
  ·rename_i a b ha hb;exact DU hG hal hn ha hb h
  ·simp at h
 case h_27=>
  split at h
  ·rename_i a b ha hb;exact HO hG hal ha hb h
  ·simp at h
 case h_28=>
  split at h
  ·rename_i f caps hf
   split at h
   ·rename_i xs hx
    split at h
    ·rename_i con hc;exact FU hG hE hal hf hx h
    ·simp at h
   ·simp at h
  ·simp at h
 case h_29=>simp at h
end
def LSh.kOK:LSh->Bool
 | .ls _=>true
 | .cs ss=>Sh.kOKs ss
def Tm.kOK (tm:Tm):Bool:=tm.slots.all (fun p=>p.2.kOK)&&tm.labs.all (fun p=>p.2.kOK)&&tm.cups.all fun p=>p.2.2.kOK
theorem G8 {len:Nat->Nat}:∀{sl:List (Nat×Sh)} {vs:List TV},sl.all (fun p=>p.2.kOK)=true->∀p∈(mkS len sl vs).1,p.2.ok
 | [],vs,_=>by simp [mkS]
 | (t,s)::sl,vs,h=>by
  simp only [List.all_cons,Bool.and_eq_true] at h
  intro p hp
  simp only [mkS] at hp
  rcases List.mem_cons.1 hp with rfl | hp
  ·exact BV len s vs h.1
  ·exact G8 h.2 p hp
theorem ln {len:Nat->Nat}:∀{sl:List (Nat×LSh)} {vs:List TV},sl.all (fun p=>p.2.kOK)=true->∀p∈(mkL len sl vs).1,p.2.ok
 | [],vs,_=>by simp [mkL]
 | (t,s)::sl,vs,h=>by
  simp only [List.all_cons,Bool.and_eq_true] at h
  intro p hp
  simp only [mkL] at hp
  rcases List.mem_cons.1 hp with rfl | hp
  ·cases s with
   | ls t=>simp only [LSh.mk];split <;> trivial
   | cs ss=>exact lH len ss vs h.1
  ·exact ln h.2 p hp
theorem EF {len:Nat->Nat}:∀{sl:List (Nat×Nat×Sh)} {vs:List TV},sl.all (fun p=>p.2.2.kOK)=true->∀p∈(mkC len sl vs).1,p.2.2.ok
 | [],vs,_=>by simp [mkC]
 | (t,i,s)::sl,vs,h=>by
  simp only [List.all_cons,Bool.and_eq_true] at h
  intro p hp
  simp only [mkC] at hp
  rcases List.mem_cons.1 hp with rfl | hp
  ·exact BV len s vs h.1
  ·exact EF h.2 p hp
theorem H2 {tm:Tm} (h:tm.kOK=true) (v:tm.T) {b:St} (hb:b.ok):(tm.app v b).ok:=by
 simp only [Tm.kOK,Bool.and_eq_true] at h
 refine ⟨fun t x hx=>?_,fun l c hl=>?_⟩
 ·simp only [Tm.app,Tm.appL] at hx
  rcases nt hx with ⟨p,hp,rfl⟩ | ⟨_,hx⟩
  ·exact G8 h.1.1 _ hp
  ·exact hb.1 _ _ (kc (ai hx)).2
 ·simp only [Tm.app,Tm.appL] at hl
  rcases nt hl with ⟨p,hp,rfl⟩ | ⟨_,hl⟩
  ·exact ln h.1.2 _ hp
  ·obtain ⟨⟨l',c0⟩,hp,e⟩:=List.mem_map.1 (ai hl)
   simp only [Prod.mk.injEq] at e;obtain ⟨rfl,rfl⟩:=e
   have hok:=hb.2 _ _ (kc hp).2
   cases c0 with
   | gone=>simp only [cupL];split <;> trivial
   | ls t x=>simp only [cupL];split <;> trivial
   | cs cs0=>
    simp only [cupL]
    split
    ·trivial
    ·refine bS.2 fun x hx=>?_
     obtain ⟨i,hi⟩:=List.getElem?_of_mem hx
     rw [kL] at hi
     cases hc0:cs0[i]? with
     | none=>rw [hc0] at hi;simp at hi
     | some d0=>
      rw [hc0] at hi
      simp only [Option.map_some,Option.some.injEq,Nat.zero_add] at hi
      subst hi
      rcases oy _ l' i d0 with ⟨h5,_⟩ | ⟨c,h5,_,_,h8⟩
      ·rw [h5];exact qe hok hc0
      ·rw [h8];exact EF h.2 c h5
end Go.SH
namespace Go.SH
variable [SentA]
mutual
def PV.rn (τ:Nat->Nat):PV->PV
 | .ptr l o=>.ptr (τ l) o
 | .rw l o n sz co=>.rw (τ l) o n sz co
 | .rop cs o=>.rop (PV.rns τ cs) o
 | .ro cs n co=>.ro (PV.rns τ cs) n co
 | .fs q cs n co=>.fs q (PV.rns τ cs) n co
 | .fn f cs=>.fn f (PV.rns τ cs)
 | .iface t v=>.iface t (v.rn τ)
 | .agg cs=>.agg (PV.rns τ cs)
 | .tup cs=>.tup (PV.rns τ cs)
 | .yld n ps a b ts vs=>.yld n ps a b ts (PV.rns τ vs)
 | x=>x
def PV.rns (τ:Nat->Nat):List PV->List PV
 | []=>[]
 | x::r=>x.rn τ::PV.rns τ r
end
theorem Dc (τ:Nat->Nat):∀l:List PV,PV.rns τ l=l.map (PV.rn τ)
 | []=>rfl
 | x::r=>by simp [PV.rns,Dc τ r]
theorem Am {τ:Nat->Nat} {l:List PV} {i:Nat} {y:PV} (h:(PV.rns τ l)[i]?=some y):∃x,l[i]?=some x/\y=x.rn τ:=by
 rw [Dc,List.getElem?_map] at h
 cases hx:l[i]? with
 | none=>rw [hx] at h;simp at h
 | some x=>rw [hx] at h;simp at h;exact ⟨x,rfl,h.symm⟩
theorem ll (τ:Nat->Nat) (l:List PV):(PV.rns τ l).length=l.length:=by simp [Dc]
theorem VR.rnT {w:World} {σ σ':Sig} {av av':Nat->Prop} {τ:Nat->Nat} {S:Nat->Bool} (hσ:∀l,S l=true->σ' (τ l)=σ l) (hF:∀q β add,σ.fam q β add->σ'.fam q β add) (hav:∀β,¬av β->¬av' β) {x:PV} {v:Value} (h:VR w σ av x v):am S x=true->VR w σ' av' (x.rn τ) v:=by
 have imm:∀{β add cs},Imm w av β add cs->Imm w av' β add cs:=fun h=>⟨h.lt,hav _ h.na,h.cell⟩
 have key:∀{cells:List PV} {cs:List Value},(∀(i:Nat) (x:PV) (v:Value),cells[i]?=some x->cs[i]?=some v->am S x=true->VR w σ' av' (x.rn τ) v)->ag S cells=true ->
   ∀(i:Nat) (y:PV) (u:Value),(PV.rns τ cells)[i]?=some y->cs[i]?=some u->VR w σ' av' y u:=by
  intro cells cs ih hw i y u hy hu
  obtain ⟨x,h1,rfl⟩:=Am hy
  exact ih i x u h1 hu (az hw h1)
 induction h with
 | dead=>exact fun _=>.dead
 | int k n=>exact fun _=>.int k n
 | bool b=>exact fun _=>.bool b
 | str l=>exact fun _=>.str l
 | nilp=>exact fun _=>.nilp
 | ptr h=>exact fun hw=>.ptr (by rw [hσ _ hw];exact h)
 | rop cs him hl hv ih=>exact fun hw=>.rop cs (imm him) (by rw [ll];exact hl) (key ih hw)
 | nils=>exact fun _=>.nils
 | roE a cap hc=>exact fun _=>.roE a cap hc
 | ro cs him hl hv hn hc ih=>exact fun hw=>.ro cs (imm him) (by rw [ll];exact hl) (key ih hw) hn hc
 | rwE a hc=>exact fun _=>.rwE a hc
 | rw h hn hc hs=>exact fun hw=>.rw (by rw [hσ _ hw];exact h) hn hc hs
 | fsE a cap hc=>exact fun _=>.fsE a cap hc
 | @fs q cells n co β add cap c T fr h hh hfr hl hv hn hc hz ih=>
  intro hw
  simp only [am,Bool.and_eq_true] at hw
  refine .fs (hF _ _ _ h) hh hfr (by rw [ll];exact hl) (fun i y u hy hu=>?_) hn hc (by rw [ll];exact hz)
  obtain ⟨x,h1,rfl⟩:=Am hy
  exact ih i x u h1 hu (az hw.2 h1)
 | fn f cs hl hv ih=>exact fun hw=>.fn f cs (by rw [ll];exact hl) (key ih hw)
 | nilf=>exact fun _=>.nilf
 | raw v=>exact fun _=>.raw v
 | iface t v _ ih=>exact fun hw=>.iface t v (ih hw)
 | nili=>exact fun _=>.nili
 | ev T o h=>exact fun _=>.ev T o fun a e=>⟨hav _ (h a e).na,(h a e).heap⟩
 | xc g cs T fr v h0 hn hh=>exact fun _=>.xc g cs T fr v h0 (hav _ hn) hh
 | agg cs hl hv ih=>exact fun hw=>.agg cs (by rw [ll];exact hl) (key ih hw)
 | tup cs hl hv ih=>exact fun hw=>.tup cs (by rw [ll];exact hl) (key ih hw)
 | yld l fn dfr tmps cs hn hl hz hc ht hv ih=>
  intro hw
  simp only [am,Bool.and_eq_true] at hw
  exact .yld l fn dfr tmps cs (hav _ hn) hl hz (by rw [ll];exact hc) ht (key ih hw.2)
open Classical in
theorem cL.ren {E:Env} {TT:World->List Value->(Ending->World->Prop)->Prop} (hTT:∀w cargs (R R':Ending->World->Prop),(∀e w',R e w'->R' e w')->TT w cargs R->TT w cargs R') {xs ys:List PV} {L1 L2 LL1 LL2:Lb} {τ:Nat->Nat} {V1:PV} (h:cL E TT ys L1 fun r L'=>r=V1/\L'=LL1) (hlen:xs.length=ys.length)
  (ha:∀(i:Nat) (x y:PV),xs[i]?=some x->ys[i]?=some y->Ren τ (hasL L1) x y) (hb:∀l c,lget L1 l=some c->∃cells xs,c=some cells/\lget L2 (τ l)=some (some xs)/\RenC τ (hasL L1) xs cells)
  (hcov:∀k,lget L2 k≠none->∃l,lget L1 l≠none/\τ l=k) (hinj:∀l l',lget LL1 l≠none->lget LL1 l'≠none->τ l=τ l'->l=l') (hdom:∀l,lget L1 l≠none->lget LL1 l≠none)
  (hV:am (hasL LL1) V1=true) (hC:∀l cells,lget LL1 l=some (some cells)->ag (hasL LL1) cells=true) (hLL:∀l c,lget LL1 l=some c->lget LL2 (τ l)=some (c.map (PV.rns τ)))
  (hLL':∀k,lget LL2 k≠none->∃l,lget LL1 l≠none/\τ l=k) (hk:∀l,lget L1 l≠none->τ l=de->l=de) (hG:GOK E):cL E TT xs L2 fun r L'=>r=V1.rn τ/\L'=LL2:=by
 intro A w σ cargs hl hv hbr hg
 let σ1:Sig:=⟨fun l=>if hasL L1 l then σ (τ l) else none,σ.fam⟩
 have hS:∀l,hasL L1 l=true->σ1 l=σ (τ l):=fun l h=>by simp [σ1,h]
 have hne:∀{L:Lb} {l:Nat},lget L l≠none->hasL L l=true:=fun h=>by simpa [hasL,Option.isSome_iff_ne_none] using h
 have hlav:∀β,cd σ1 L1 β->cd σ L2 β:=by
  rintro β ⟨l,cells,x,s,h1,h2⟩
  rw [hS l (by simp [hasL,h1])] at h2
  obtain ⟨cells',xs',_,h3,_⟩:=hb l _ h1
  exact ⟨_,xs',x,s,h3,h2⟩
 have hav:∀β,avOf σ1 L1 β->avOf σ L2 β:=fun β h=>h.imp (hlav β) id
 have havo:∀β,¬avo A σ L2 β->¬avo A σ1 L1 β:=fun β hn hh=>hn (hh.imp id (hav β))
 have hb1:BR w σ1 A L1:=by
  refine ⟨fun l cells hl=>?_,?_,?_,?_,hbr.fr.mono (Nat.le_refl _) (fun _ _ _ k=>k) (fun _ _ _ _=>rfl) fun _ β _ _=>hlav β⟩
  ·obtain ⟨cells',xs',e,h1,h2⟩:=hb l _ hl
   simp at e;subst e
   have hh:hasL L1 l=true:=by simp [hasL,hl]
   obtain ⟨e1,e2⟩:=h2.get
   rcases hbr.all _ xs' h1 with ⟨h3,h4⟩ | ⟨β,add,size,c,T,fr,hB⟩
   ·exact .inl ⟨by rw [hS l hh];exact h3,by subst h4;simpa using e1.symm⟩
   ·refine .inr ⟨β,add,size,c,T,fr,⟨by rw [hS l hh];exact hB.sig,hB.heap,hB.hsz,e1▸hB.fits,fun i y hy=>?_,hB.frs⟩⟩
    have hi:i<xs'.length:=by rw [e1];exact (List.getElem?_eq_some_iff.1 hy).1
    obtain ⟨v,h5,h6⟩:=hB.vals i _ (List.getElem?_eq_getElem hi)
    exact ⟨v,h5,h6.ren hS (fun _ _ _ h=>h) havo (e2 i _ y (List.getElem?_eq_getElem hi) hy)⟩
  ·intro l l' c c' β a s a' s' h1 h2 h3 h4
   rw [hS l (by simp [hasL,h1])] at h3
   rw [hS l' (by simp [hasL,h2])] at h4
   obtain ⟨_,_,_,h5,_⟩:=hb l _ h1
   obtain ⟨_,_,_,h6,_⟩:=hb l' _ h2
   exact hinj l l' (hdom l (by rw [h1];simp)) (hdom l' (by rw [h2];simp)) (hbr.inj _ _ _ _ β a s a' s' h5 h6 h3 h4)
  ·intro l x h1
   by_cases hh:hasL L1 l=true
   ·simp only [hasL,Option.isSome_iff_ne_none] at hh;exact hh
   ·simp [σ1,hh] at h1
  ·intro β hA
   obtain ⟨h1,h2⟩:=hbr.lo β hA
   exact ⟨h1,fun ha=>h2 (hav β ha)⟩
 refine hTT _ _ _ _ ?_ (h A w σ1 cargs (by omega) (fun i y u hy hu=>?_) hb1 (fun g cells hgc=>Env.pureG hG hgc (hg g cells hgc) havo))
 rotate_left
 ·have hi:i<xs.length:=by rw [hlen];exact (List.getElem?_eq_some_iff.1 hy).1
  exact (hv i _ u (List.getElem?_eq_getElem hi) hu).ren hS (fun _ _ _ h=>h) havo (ha i _ y (List.getElem?_eq_getElem hi) hy)
 ·rintro e w' ⟨r,c,L',σ1',rfl,⟨rfl,rfl⟩,hvr,hbr',hgr⟩
  let σ2:Sig:=⟨fun k=>if h:∃l,lget L' l≠none/\τ l=k then σ1' h.choose else none,σ1'.fam⟩
  have h2:∀l,lget L' l≠none->σ2 (τ l)=σ1' l:=by
   intro l hl
   have he:∃l',lget L' l'≠none/\τ l'=τ l:=⟨l,hl,rfl⟩
   have:he.choose=l:=hinj _ _ he.choose_spec.1 hl he.choose_spec.2
   simp only [σ2,he,dif_pos,this]
  have h2':∀l,hasL L' l=true->σ2 (τ l)=σ1' l:=fun l hl=>h2 l (by simpa [hasL,Option.isSome_iff_ne_none] using hl)
  have back:∀{k:Nat} {cells':List PV},lget LL2 k=some (some cells')->∃l cells,τ l=k/\lget L' l=some (some cells)/\cells'=PV.rns τ cells:=by
   intro k cells' hk
   obtain ⟨l,h3,rfl⟩:=hLL' k (by rw [hk];simp)
   cases h4:lget L' l with
   | none=>exact absurd h4 h3
   | some c=>
    have:=hLL l c h4
    rw [hk] at this
    cases c with
    | none=>simp at this
    | some cells=>simp at this;exact ⟨l,cells,rfl,h4,this⟩
  have hlav2:∀β,cd σ2 LL2 β->cd σ1' L' β:=by
   rintro β ⟨k,cells',a,s,h3,h4⟩
   obtain ⟨l,cells,rfl,h5,_⟩:=back h3
   rw [h2 l (by rw [h5];simp)] at h4
   exact ⟨l,cells,a,s,h5,h4⟩
  have hav2:∀β,avOf σ2 LL2 β->avOf σ1' L' β:=fun β h=>h.imp (hlav2 β) id
  have havo2:∀β,¬avo A σ1' L' β->¬avo A σ2 LL2 β:=fun β hn hh=>hn (hh.imp id (hav2 β))
  refine ⟨_,c,_,σ2,rfl,⟨rfl,rfl⟩,hvr.rnT h2' (fun _ _ _ h=>h) havo2 hV,⟨?_,?_,?_,?_,hbr'.fr.mono (Nat.le_refl _) (fun _ _ _ k=>k) (fun _ _ _ _=>rfl) fun _ β _ _=>hlav2 β⟩,⟨hgr.size,?_,?_,hgr.out,fun hK=>hgr.fam ?_⟩⟩
  ·intro k cells' hk
   obtain ⟨l,cells,rfl,h5,rfl⟩:=back hk
   have hl:=h2 l (by rw [h5];simp)
   rcases hbr'.all l cells h5 with ⟨h6,h7⟩ | ⟨β,add,size,cc,T,fr,hB⟩
   ·exact .inl ⟨by rw [hl];exact h6,by subst h7;rfl⟩
   ·refine .inr ⟨β,add,size,cc,T,fr,⟨by rw [hl];exact hB.sig,hB.heap,hB.hsz,by rw [ll];exact hB.fits,fun i y hy=>?_,hB.frs⟩⟩
    obtain ⟨x,h8,rfl⟩:=Am hy
    obtain ⟨v,h9,h10⟩:=hB.vals i x h8
    exact ⟨v,h9,h10.rnT h2' (fun _ _ _ h=>h) havo2 (az (hC l cells h5) h8)⟩
  ·intro k k' c1 c2 β a s a' s' h3 h4 h5 h6
   obtain ⟨l,d,rfl,h7,_⟩:=back h3
   obtain ⟨l',d',rfl,h8,_⟩:=back h4
   rw [h2 l (by rw [h7];simp)] at h5
   rw [h2 l' (by rw [h8];simp)] at h6
   rw [hbr'.inj l l' d d' β a s a' s' h7 h8 h5 h6]
  ·intro k x hk
   by_cases he:∃l,lget L' l≠none/\τ l=k
   ·obtain ⟨l,h3,rfl⟩:=he
    cases h4:lget L' l with
    | none=>exact absurd h4 h3
    | some c=>rw [hLL l c h4];simp
   ·simp only [σ2,he,dif_neg,not_false_eq_true] at hk;simp at hk
  ·intro β hA
   obtain ⟨h3,h4⟩:=hbr'.lo β hA
   exact ⟨h3,fun hh=>h4 (hav2 β hh)⟩
  ·intro k y hk hy
   obtain ⟨l,h3,rfl⟩:=hcov k hk
   rw [h2 l (hdom l h3)]
   exact hgr.sig l y h3 (by rw [hS l (hne h3)];exact hy)
  ·intro β hβ hn
   obtain ⟨h3,h4⟩:=hgr.keep β hβ fun hh=>hn (hav β hh)
   exact ⟨fun hh=>h3 (hav2 β hh),h4⟩
  ·obtain ⟨l,h3,h4⟩:=hcov _ hK
   have:=hk l h3 h4
   subst this;exact h3
end Go.SH
namespace Go.SH
variable [SentA]
mutual
def DV.rn (τ:Nat->Nat):DV->DV
 | .ptr l o=>.ptr (τ l) o
 | .lp l sz i k=>.lp (τ l) sz i k
 | .rw l sz o n co w=>.rw (τ l) sz o n co w
 | .fn f cs=>.fn f (DV.rns τ cs)
 | .iface t v=>.iface t (v.rn τ)
 | .agg cs=>.agg (DV.rns τ cs)
 | .tup cs=>.tup (DV.rns τ cs)
 | .yl i cs=>.yl i (DV.rns τ cs)
 | x=>x
def DV.rns (τ:Nat->Nat):List DV->List DV
 | []=>[]
 | x::r=>x.rn τ::DV.rns τ r
end
mutual
theorem sE (τ:Nat->Nat):∀(x:PV),pureF x=true->x.rn τ=x
 | .ptr _ _,h=>by simp [pureF] at h
 | .rw _ _ _ _ _,h=>by simp [pureF] at h
 | .rop cs _,h=>by simp only [PV.rn];rw [fN τ cs (by simpa [pureF] using h)]
 | .ro cs _ _,h=>by simp only [PV.rn];rw [fN τ cs (by simpa [pureF] using h)]
 | .fs _ cs _ _,h=>by simp only [PV.rn];rw [fN τ cs (by simpa [pureF] using h)]
 | .fn f cs,h=>by simp only [PV.rn];rw [fN τ cs (by simpa [pureF] using h)]
 | .iface t v,h=>by simp only [PV.rn];rw [sE τ v (by simpa [pureF] using h)]
 | .agg cs,h=>by simp only [PV.rn];rw [fN τ cs (by simpa [pureF] using h)]
 | .tup cs,h=>by simp only [PV.rn];rw [fN τ cs (by simpa [pureF] using h)]
 | .yld _ _ _ _ _ _,h=>by simp [pureF] at h
 | .dead,_=>rfl
 | .int _ _,_=>rfl
 | .bool _,_=>rfl
 | .str _,_=>rfl
 | .nilp,_=>rfl
 | .nils,_=>rfl
 | .nilf,_=>rfl
 | .raw _,_=>rfl
 | .nili,_=>rfl
 | .ev _ _,_=>rfl
 | .xc _ _,_=>rfl
theorem fN (τ:Nat->Nat):∀(xs:List PV),bY xs=true->PV.rns τ xs=xs
 | [],_=>rfl
 | x::r,h=>by
  simp only [bY,Bool.and_eq_true] at h
  simp only [PV.rns];rw [sE τ x h.1,fN τ r h.2]
end
mutual
theorem Et (τ:Nat->Nat):∀(d:DV),(d.rn τ).pv=d.pv.rn τ
 | .ptr _ _=>rfl
 | .lp _ _ _ _=>rfl
 | .rw _ _ _ _ _ _=>rfl
 | .fn f cs=>by simp only [DV.rn,DV.pv,PV.rn];rw [ul τ cs]
 | .iface t v=>by simp only [DV.rn,DV.pv,PV.rn];rw [Et τ v]
 | .agg cs=>by simp only [DV.rn,DV.pv,PV.rn];rw [ul τ cs]
 | .tup cs=>by simp only [DV.rn,DV.pv,PV.rn];rw [ul τ cs]
 | .yl i cs=>by simp only [DV.rn,DV.pv,PV.rn];rw [ul τ cs]
 | .dead=>rfl
 | .int _ _=>rfl
 | .by _=>rfl
 | .bool _=>rfl
 | .str _=>rfl
 | .nilp=>rfl
 | .nils=>rfl
 | .nilf=>rfl
 | .nili=>rfl
 | .ev _ _=>rfl
 | .oi T t x=>by simp only [DV.rn,DV.pv];rw [sE τ _ (qd T x)]
 | .oq t x=>by simp only [DV.rn,DV.pv];rw [sE τ _ (qc x)]
 | .fk fs i=>by simp only [DV.rn,DV.pv];rw [sE τ _ (pK fs i)]
 | .ep t l i x k=>by simp only [DV.rn,DV.pv,PV.rn];rw [fN τ _ (em l)]
 | .gp t l=>by simp only [DV.rn,DV.pv,PV.rn];rw [fN τ _ (em l)]
 | .sl t l=>by simp only [DV.rn,DV.pv,PV.rn];rw [fN τ _ (em l)]
 | .fsl q t l=>by simp only [DV.rn,DV.pv,PV.rn];rw [fN τ _ (em l)]
theorem ul (τ:Nat->Nat):∀(ds:List DV),DV.pvs (DV.rns τ ds)=PV.rns τ (DV.pvs ds)
 | []=>rfl
 | d::r=>by simp only [DV.rns,DV.pvs,PV.rns];rw [Et τ d,ul τ r]
end
mutual
theorem GO (τ:Nat->Nat):∀{d:DV},d.ok->(d.rn τ).ok
 | .ptr _ _,h=>h
 | .lp _ _ _ _,h=>h
 | .rw _ _ _ _ _ _,h=>h
 | .fn f cs,h=>um τ (ds:=cs) h
 | .iface t v,h=>GO τ (d:=v) h
 | .agg cs,h=>um τ (ds:=cs) h
 | .tup cs,h=>um τ (ds:=cs) h
 | .yl _ cs,h=>um τ (ds:=cs) h
 | .dead,h=>h
 | .int _ _,h=>h
 | .by _,h=>h
 | .bool _,h=>h
 | .str _,h=>h
 | .nilp,h=>h
 | .nils,h=>h
 | .nilf,h=>h
 | .nili,h=>h
 | .ev _ _,h=>h
 | .oi _ _ _,h=>h
 | .oq _ _,h=>h
 | .fk _ _,h=>h
 | .ep _ _ _ _ _,h=>h
 | .gp _ _,h=>h
 | .sl _ _,h=>h
 | .fsl _ _ _,h=>h
theorem um (τ:Nat->Nat):∀{ds:List DV},DV.oks ds->DV.oks (DV.rns τ ds)
 | [],_=>trivial
 | d::r,h=>⟨GO τ h.1,um τ h.2⟩
end
theorem w5 {τ:Nat->Nat}:∀{l:List DV} {i:Nat},(DV.rns τ l)[i]?=(l[i]?).map (DV.rn τ)
 | [],_=>by simp [DV.rns]
 | x::r,i=>by cases i with
  | zero=>simp [DV.rns]
  | succ i=>simp only [DV.rns,List.getElem?_cons_succ];exact w5
theorem BH {τ:Nat->Nat}:∀{l:List DV},(DV.rns τ l).length=l.length
 | []=>rfl
 | x::r=>by simp [DV.rns,BH (l:=r)]
def DC.rn (τ:Nat->Nat):DC->DC
 | .cs l=>.cs (DV.rns τ l)
 | c=>c
theorem HF (τ:Nat->Nat):∀c:DC,(c.rn τ).pv=c.pv.map (PV.rns τ)
 | .gone=>rfl
 | .cs l=>by simp [DC.rn,DC.pv,ul]
 | .ls t l=>by simp only [DC.rn,DC.pv,Option.map_some];rw [fN τ _ (em l)]
def df:Sh->DV->Bool
 | .h t,d=>match t,d with
  | .ti _,.int _ _=>true
  | .tu,.by _=>true
  | .tb,.bool _=>true
  | .ts,.str _=>true
  | .tl _,.sl _ _=>true
  | .tf _ _,.fsl _ _ _=>true
  | .te _,.ev _ _=>true
  | .to _ _,.oi _ _ _=>true
  | .tq _,.oq _ _=>true
  | .tk _,.fk _ _=>true
  | _,_=>false
 | .k _,_=>true
 | .ptr _ _,_=>true
 | .rww _ _,.rw _ _ _ _ co w=>co.isNone&&w
 | .rwf _ _,.rw _ _ _ _ co w=>co.isNone && !w
 | _,_=>false
theorem Jc {t:ET} {d:DV} {x:t.T} (h:t.one [d]=some x) (he:df (.h t) d=true):vm (t.cells x)=d:=by
 unfold ET.one at h
 split at h
 ·rename_i y hy
  simp at h;subst h
  cases t with
  | ti k=>obtain ⟨d',e,h1⟩:=aS hy;simp at e;subst e;exact (yh h1).symm
  | tu=>
   obtain ⟨d',e,h1⟩:=aS hy;simp at e;subst e
   unfold df at he
   simp only at he
   split at he <;> simp_all [asY,ET.cells,vm]
  | tb=>obtain ⟨d',e,h1⟩:=aS hy;simp at e;subst e;exact (A7 h1).symm
  | ts=>obtain ⟨d',e,h1⟩:=aS hy;simp at e;subst e;exact (A3 h1).symm
  | tn=>simp [ET.un] at hy
  | tl t=>
   obtain ⟨d',e,h1⟩:=aS hy;simp at e;subst e
   rcases A4 h1 with ⟨rfl,rfl⟩ | rfl
   ·simp [df] at he
   ·rfl
  | tf q t=>
   obtain ⟨d',e,h1⟩:=aS hy;simp at e;subst e
   rcases A6 h1 with ⟨rfl,rfl⟩ | rfl
   ·simp [df] at he
   ·rfl
  | te T=>
   obtain ⟨d',e,h1⟩:=aS hy;simp at e;subst e
   unfold df at he
   simp only at he
   split at he <;> simp_all [asE,ET.cells,vm]
  | to T t=>
   obtain ⟨d',e,h1⟩:=aS hy;simp at e;subst e
   cases d with
   | oi T' t' x'=>
    simp only [asO] at h1
    split at h1
    ·rename_i e;subst e
     split at h1
     ·rename_i e;subst e;simp at h1;subst h1;rfl
     ·simp at h1
    ·simp at h1
   | _=>simp [df] at he
  | tq t=>
   obtain ⟨d',e,h1⟩:=aS hy;simp at e;subst e
   cases d with
   | oq t' x'=>
    simp only [asQ] at h1
    split at h1
    ·rename_i e;subst e;simp at h1;subst h1;rfl
    ·simp at h1
   | _=>simp [df] at he
  | tk fs=>
   obtain ⟨d',e,h1⟩:=aS hy;simp at e;subst e
   cases d with
   | fk fs' i=>
    simp only [asK] at h1
    split at h1
    ·rename_i e;subst e;simp at h1;subst h1;rfl
    ·simp at h1
   | _=>simp [df] at he
  | tp a c=>simp [df] at he
 ·simp at h
theorem FJ {fr:Nat} {s:Sh} {d:DV} {g g':GS} (h:s.get fr d g=some g') (he:df s d=true) {xs:List TV} (hx:g'.vs=g.vs++xs) {len:Nat->Nat} {rest:List TV} {τ:Nat->Nat} {S:Nat->Bool} (hm:ym τ S g') (hq:∀p∈g'.q,p.2=len p.1) :
  (s.mk len (xs++rest)).1.rn τ=d:=by
 cases s with
 | h t=>
  simp only [Sh.get] at h
  split at h
  ·rename_i x hxx
   simp at h;subst h
   have:xs=[⟨t,x⟩]:=by simpa [GS.put] using hx.symm
   subst this
   simp only [Sh.mk,List.cons_append]
   have e:=Jc hxx he
   rw [e]
   unfold df at he
   simp only at he
   split at he <;> first | rfl | simp at he
  ·simp at h
 | k c=>
  simp only [Sh.get] at h
  split at h
  ·rename_i hc
   obtain ⟨rfl,h1,_⟩:=yd hc
   show c.rn τ=c
   unfold wA at hc
   split at hc <;> first | rfl | simp at hc
  ·simp at h
 | ptr l o=>
  simp only [Sh.get] at h
  split at h
  ·split at h
   ·rename_i e;subst e
    obtain ⟨_,_,_,h4⟩:=od h
    show DV.ptr (τ l) o=_
    rw [(hm _ h4).1]
   ·simp at h
  ·simp at h
 | rww l sz=>
  simp only [Sh.get] at h
  split at h
  ·rename_i l' sz' off n co w
   split at h
   ·rename_i e;obtain ⟨rfl,rfl⟩:=e
    split at h
    ·rename_i g1 hg
     simp at h;subst h
     obtain ⟨_,_,_,h4⟩:=od hg
     have e:=hq (l,n) (by simp)
     simp only [df,Bool.and_eq_true,Option.isNone_iff_eq_none] at he
     obtain ⟨rfl,rfl⟩:=he
     show DV.rw (τ l) sz 0 (len l) none true=_
     rw [(hm _ h4).1,<-e]
    ·simp at h
   ·simp at h
  ·simp [df] at he
  ·simp at h
 | rwf l sz=>
  simp only [Sh.get] at h
  split at h
  ·rename_i l' sz' off n co w
   split at h
   ·rename_i e;subst e
    split at h
    ·rename_i g1 hg
     simp at h;subst h
     obtain ⟨h1,_,_,h4⟩:=od hg
     have:xs=[⟨.tn,off⟩,⟨.tn,n⟩]:=by
      have:g.vs++xs=g.vs++[⟨.tn,off⟩,⟨.tn,n⟩]:=by rw [<-hx];simp [GS.put,h1]
      exact List.append_cancel_left this
     subst this
     simp only [df,Bool.and_eq_true,Option.isNone_iff_eq_none,Bool.not_eq_true'] at he
     obtain ⟨rfl,rfl⟩:=he
     show DV.rw (τ l) sz off n none false=_
     rw [(hm _ h4).1]
    ·simp at h
   ·simp at h
  ·simp at h
 | st t=>simp [df] at he
 | fn f cs=>simp [df] at he
 | iface t s=>simp [df] at he
 | agg cs=>simp [df] at he
 | tup cs=>simp [df] at he
theorem xK {fr:Nat}:∀{ss:List Sh} {ds:List DV} {g g':GS},Sh.gets fr ss ds g=some g'->∀{xs:List TV},g'.vs=g.vs++xs->∀{len:Nat->Nat} {rest:List TV} {τ:Nat->Nat} {S:Nat->Bool},ym τ S g'->(∀p∈g'.q,p.2=len p.1) ->
  ∀(i:Nat) (s:Sh) (d:DV),ss[i]?=some s->ds[i]?=some d->df s d=true->∃e,(Sh.mks len ss (xs++rest)).1[i]?=some e/\e.rn τ=d
 | [],ds,g,g',h,xs,hx,len,rest,τ,S,hm,hq,i,s,d,hs,hd,he=>by simp at hs
 | s::ss,ds,g,g',h,xs,hx,len,rest,τ,S,hm,hq,i,s',d',hs,hd,he=>by
  simp only [Sh.gets] at h
  split at h
  ·simp at h
  ·rename_i d ds
   split at h
   ·rename_i g1 h1
    obtain ⟨a1,ys,a2,a3,a4⟩:=uH fr s h1
    obtain ⟨b1,zs,b2,b3,b4⟩:=lN fr ss h
    have e:xs=ys++zs:=by
     have:g.vs++xs=g.vs++(ys++zs):=by rw [<-hx,b2,a2,List.append_assoc]
     exact List.append_cancel_left this
    subst e
    have hm1:ym τ S g1:=fun p hp=>hm p (b1.1 p hp)
    have hq1:∀p∈g1.q,p.2=len p.1:=fun p hp=>hq p (b1.2 p hp)
    obtain ⟨c1,_,_⟩:=a4 len (zs++rest) τ S hm1 hq1
    simp only [Sh.mk'] at c1
    simp only [Sh.mks,List.append_assoc]
    cases i with
    | zero=>
     simp at hs hd;subst hs;subst hd
     exact ⟨_,rfl,FJ h1 he a2 hm1 hq1⟩
    | succ i=>
     simp only [List.getElem?_cons_succ] at hs hd ⊢
     rw [c1]
     exact xK h b2 hm hq i s' d' hs hd he
   ·simp at h
end Go.SH
namespace Go.SH
variable [SentA]
def kG (ar:List Sh) (ls:List (Nat×LSh)) (vs:List TV):Nat->Nat:=lenF (lenT ls (vs.drop (Sh.ns ar))) []
def inA (ar:List Sh) (ls:List (Nat×LSh)) (vs:List TV):List DV:=(Sh.mks (kG ar ls vs) ar vs).1
def inL (ar:List Sh) (ls:List (Nat×LSh)) (vs:List TV):DLb:=(mkL (kG ar ls vs) ls (Sh.mks (kG ar ls vs) ar vs).2).1
def inS (ar:List Sh) (ls:List (Nat×LSh)) (vs:List TV):St:=⟨[],inL ar ls vs,[],[]⟩
def resV (s:St):DV:=match lget s.al 0 with
 | some d=>d
 | none=>.dead
structure ICon (E:Env) where
 f:FuncId
 ar:List Sh
 ls:List (Nat×LSh)
 ot:Tm
 fn:HT (Sh.hss ar++hsL ls)->Option ot.T
 run:∀args w,(callFunc f args).run E.P w = .ok (.enter f args) w
 ok:∀a v,fn a=some v->dQ E f (DV.pvs (inA ar ls (ab _ a))) (dlb (inL ar ls (ab _ a))) fun x L=>x=(resV (ot.app v (inS ar ls (ab _ a)))).pv/\L=dlb (ot.app v (inS ar ls (ab _ a))).L
structure ICore where
 f:FuncId
 ar:List Sh
 ls:List (Nat×LSh)
 ot:Tm
 fn:HT (Sh.hss ar++hsL ls)->Option ot.T
def ICon.core {E:Env} (c:ICon E):ICore:=⟨c.f,c.ar,c.ls,c.ot,c.fn⟩
def keys {α:Type} (L:List (Nat×α)):List Nat:=L.map (·.1)
def newN (fr:Nat) (old:List Nat):List Nat->Nat->List (Nat×Nat)
 | [],_=>[]
 | l::r,i=>match old.elem l with
  | true=>newN fr old r i
  | false=>(l,fr+i)::newN fr old r (i+1)
def rnL (τ:Nat->Nat) (L:DLb):DLb:=L.map fun p=>(τ p.1,p.2.rn τ)
def qk (k:Nat):LSh->Option DC->DL
 | .ls t,c=>match c with
  | some (.ls t' _)=>if t'=t then [] else [(k,none)]
  | _=>[(k,none)]
 | .cs ss,c=>match c with
  | some (.cs ds)=>go ss ds 0
  | _=>[(k,none)]
where
 go:List Sh->List DV->Nat->DL
  | s::ss,d::ds,i=>match df s d with
   | true=>go ss ds (i+1)
   | false=>(k,some i)::go ss ds (i+1)
  | _,_,_=>[]
def tU:List Sh->List DV->Bool
 | s::ss,d::ds=>df s d&&tU ss ds
 | _,_=>true
theorem tT:∀{ss:List Sh} {ds:List DV} {i:Nat} {s:Sh} {d:DV},tU ss ds=true->ss[i]?=some s->ds[i]?=some d->df s d=true
 | [],_,i,s,d,_,h,_=>by simp at h
 | _::_,[],i,s,d,_,_,h=>by simp at h
 | s::ss,d::ds,i,s',d',h,hs,hd=>by
  simp only [tU,Bool.and_eq_true] at h
  cases i with
  | zero=>simp at hs hd;subst hs;subst hd;exact h.1
  | succ i=>exact tT h.2 (by simpa using hs) (by simpa using hd)
def Dp:LSh->Option DC->Bool
 | .ls t,some (.ls t' _)=>decide (t'=t)
 | .cs ss,some (.cs ds)=>tU ss ds
 | _,_=>false
def rR (τ:Nat->Nat) (L:DLb) (ls:List (Nat×LSh)) (ot:Tm):DL:=
 ot.labs.map (fun p=>(τ p.1,none))++ot.cups.map (fun c=>(τ c.1,some c.2.1))++ot.killL.map (fun l=>(τ l,none))++ls.flatMap fun p=>qk (τ p.1) p.2 (lget L (τ p.1))
def nw (τ:Nat->Nat) (L:DLb) (ls:List (Nat×LSh)) (ot:Tm) (l:Nat):Bool:=
 !(keys ot.labs).elem l && !ot.killL.elem l && !(ot.cups.any fun c=>decide (c.1=l))&&match lget ls l with
   | some s=>Dp s (lget L (τ l))
   | none=>false
def wlI (τ:Nat->Nat) (L:DLb) (ls:List (Nat×LSh)) (ot:Tm) (oL:DLb):DLb:=rnL τ (oL.filter fun p=>!nw τ L ls ot p.1)
def xf:List Nat->Bool
 | []=>true
 | l::r=>!r.elem l&&xf r
def KE (ls:List (Nat×LSh)) (ot:Tm):Bool:=ot.cups.all fun c=>match lget ls c.1 with
 | some (.cs _)=>true
 | _=>false
def zI:DC->Bool
 | .gone=>true
 | .cs ds=>DV.labsL noF ds&&DV.noFL ds
 | .ls t _=>t.noF
def iM (S:Nat->Bool):DC->Bool
 | .gone=>true
 | .cs ds=>DV.labsLN S ds
 | .ls t _=>t.noF||S flab
def wkOK (wk:Bool) (hs:List Nat) (rl:DLb):Bool:=match wk with
 | false=>!hs.elem flab||hs.elem de
 | true=>rl.all fun p=>hs.elem p.1||zI p.2
def uS {R:Type} (wk:Bool) (rl:DLb) (fr:Nat) (con:ICore) (f:FuncId) (args:List DV) (k:DV->DLb->DL->Option R):Option R:=
 if con.f=f/\con.ot.kOK=true/\con.ls.all (fun p=>p.2.kOK)=true/\KE con.ls con.ot=true then match Sh.gets fr con.ar args ⟨[],[],[]⟩ with
  | some g1=>match getL fr rl con.ls g1 with
   | some g=>reqs (kG con.ar con.ls g.vs) g.q (match pack (Sh.hss con.ar++hsL con.ls) g.vs with
    | some a=>(con.fn a).bind fun v=>
     let o:=con.ot.app v (inS con.ar con.ls g.vs)
     let m:=g.m++newN fr (keys con.ls) (keys o.L) 0
     let τ:=lk m
     if rD m=true/\(g.m.all fun p=>(keys con.ls).elem p.1)=true/\DV.labsLN (fun l=>((keys con.ls).map τ).elem l) args=true /\
       (con.ls.all fun p=>match lget rl (τ p.1) with
        | some .gone=>false
        | some c=>iM (fun l=>((keys con.ls).map τ).elem l) c
        | none=>false)=true /\
       (keys con.ls).all (fun l=>(keys o.L).elem l)=true/\((keys o.L).all fun l=>(keys o.L).all fun l'=>decide (τ l=τ l'->l=l'))=true /\
       (resV o).labsN (fun l=>(keys o.L).elem l)=true/\o.L.all (fun p=>iM (fun l=>(keys o.L).elem l) p.2)=true /\
       (keys o.L).all (fun l=>(keys con.ls).elem l || !(keys rl).elem (τ l))=true/\(keys con.ls).all (fun l=>(keys g.m).elem l)=true/\xf (keys o.L)=true/\xf (keys con.ls)=true/\(keys con.ls).all (fun l=>decide (τ l=de->l=de))=true /\
       wkOK wk ((keys con.ls).map τ) rl=true then
      k ((resV o).rn τ) (wlI τ rl con.ls con.ot o.L) (rR τ rl con.ls con.ot) else none
    | none=>none)
   | none=>none
  | none=>none else none
theorem zE {α:Type} {L:List (Nat×α)} {l:Nat}:(keys L).elem l=true<->lget L l≠none:=by
 constructor
 ·intro h
  simp only [keys,List.elem_eq_mem,decide_eq_true_eq] at h
  obtain ⟨p,hp,rfl⟩:=List.mem_map.1 h
  intro hn
  clear h
  induction L with
  | nil=>simp at hp
  | cons q r ih=>
   obtain ⟨j,x⟩:=q
   rw [lget] at hn
   split at hn
   ·simp at hn
   ·rename_i hj
    rcases List.mem_cons.1 hp with rfl | hp
    ·exact hj rfl
    ·exact ih hp hn
 ·intro h
  cases hc:lget L l with
  | none=>exact absurd hc h
  | some c=>simp only [keys,List.elem_eq_mem,decide_eq_true_eq];exact List.mem_map.2 ⟨_,ai hc,rfl⟩
theorem Av {τ:Nat->Nat}:∀{L:DLb} {l:Nat},(∀l'∈keys L,τ l'=τ l->l'=l)->lget (rnL τ L) (τ l)=(lget L l).map (DC.rn τ)
 | [],l,_=>rfl
 | (k,c)::r,l,h=>by
  simp only [rnL,List.map_cons,lget]
  by_cases e:k=l
  ·subst e;simp
  ·rw [if_neg (fun e2=>e (h k (by simp [keys]) e2)),if_neg e]
   exact Av (L:=r) fun l' hl'=>h l' (by simp only [keys,List.map_cons,List.mem_cons];exact .inr hl')
theorem jD {τ:Nat->Nat}:∀{L:DLb} {k:Nat},lget (rnL τ L) k≠none->∃l∈keys L,τ l=k
 | [],k,h=>by simp [rnL,lget] at h
 | (j,c)::r,k,h=>by
  simp only [rnL,List.map_cons,lget] at h
  by_cases e:τ j=k
  ·exact ⟨j,by simp [keys],e⟩
  ·rw [if_neg e] at h
   obtain ⟨l,h1,h2⟩:=jD (L:=r) h
   exact ⟨l,by simp only [keys,List.map_cons,List.mem_cons];exact .inr h1,h2⟩
theorem B1 {L:DLb} {f:Nat->Bool} (l:Nat):lget (L.filter fun p=>f p.1) l=if f l=true then lget L l else none:=by
 induction L with
 | nil=>simp [lget]
 | cons p r ih=>
  obtain ⟨k,c⟩:=p
  simp only [List.filter_cons]
  split
  ·rename_i hk
   simp only [lget]
   by_cases e:k=l
   ·subst e;simp [hk]
   ·rw [if_neg e,if_neg e];exact ih
  ·rename_i hk
   rw [ih]
   simp only [lget]
   by_cases e:k=l
   ·subst e;simp [hk]
   ·rw [if_neg e]
theorem B5 {k:Nat} {ss:List Sh} {ds:List DV}:∀{j i:Nat},(k,some (j+i)) ∉ qk.go k ss ds j->∀{s d},ss[i]?=some s->ds[i]?=some d->df s d=true:=by
 induction ss generalizing ds with
 | nil=>intro j i _ s d hs;simp at hs
 | cons s ss ih=>
  intro j i h s' d' hs hd
  cases ds with
  | nil=>simp at hd
  | cons d ds=>
   simp only [qk.go] at h
   cases i with
   | zero=>
    simp at hs hd;subst hs;subst hd
    split at h
    ·assumption
    ·simp at h
   | succ i=>
    simp only [List.getElem?_cons_succ] at hs hd
    refine ih (j:=j+1) (i:=i) (ds:=ds) ?_ hs hd
    rw [show j+1+i=j+(i+1) from by omega]
    split at h
    ·exact h
    ·simp at h;exact h
theorem gt {α:Type}:∀{L:List (Nat×α)},xf (keys L)=true->∀{l:Nat} {c:α},(l,c)∈L->lget L l=some c
 | [],_,l,c,h=>by simp at h
 | (k,x)::r,hn,l,c,h=>by
  simp only [keys,List.map_cons,xf,Bool.and_eq_true,Bool.not_eq_true'] at hn
  rcases List.mem_cons.1 h with e | h
  ·simp at e;obtain ⟨rfl,rfl⟩:=e;simp [lget]
  ·have h1:k≠l:=by
    intro e;rw [e] at hn
    have:l∈r.map (·.1):=List.mem_map.2 ⟨_,h,rfl⟩
    have h2:=hn.1
    simp only [List.elem_eq_mem,decide_eq_false_iff_not] at h2
    exact h2 this
   rw [lget,if_neg h1]
   exact gt hn.2 h
theorem dj (L:DLb):hasL (dlb L)=fun l=>(keys L).elem l:=by
 funext l
 cases h:(keys L).elem l with
 | true=>
  have:=zE.1 h
  simp only [hasL,Option.isSome_iff_ne_none,an]
  cases hc:lget L l with
  | none=>exact absurd hc this
  | some c=>simp
 | false=>
  cases hc:lget L l with
  | none=>simp [hasL,an,hc]
  | some c=>
   have:(keys L).elem l=true:=zE.2 (by rw [hc];simp)
   rw [this] at h;simp at h
def LabX (τ:Nat->Nat) (L:DLb) (l:Nat) (s:LSh) (c:DC):Prop:=match s with
 | .ls t=>∃y,c = .ls t y/\∀x,lget L (τ l)=some (.ls t x)->y=x
 | .cs ss=>∃ds es,lget L (τ l)=some (.cs ds)/\c = .cs es/\es.length=ds.length/\ss.length=ds.length/\∀(i:Nat) (s:Sh) (d:DV),ss[i]?=some s->ds[i]?=some d->df s d=true->∃e,es[i]?=some e/\e.rn τ=d
theorem xJ {fr:Nat}:∀{ss:List Sh} {ds:List DV} {g g':GS},Sh.gets fr ss ds g=some g'->ss.length=ds.length
 | [],ds,g,g',h=>by
  simp only [Sh.gets] at h
  split at h
  ·rfl
  ·simp at h
 | s::ss,ds,g,g',h=>by
  simp only [Sh.gets] at h
  split at h
  ·simp at h
  ·split at h
   ·simp [xJ h]
   ·simp at h
theorem n8 (len:Nat->Nat):∀(ss:List Sh) (vs:List TV),(Sh.mks len ss vs).1.length=ss.length
 | [],_=>rfl
 | s::ss,vs=>by simp only [Sh.mks,List.length_cons];rw [n8 len ss]
theorem L6 {fr:Nat} {L:DLb}:∀{s:LSh} {l:Nat} {g g':GS},s.get fr (lget L l) g=some g'->∀{xs:List TV},g'.vs=g.vs++xs->∀{len:Nat->Nat} {rest:List TV} {τ:Nat->Nat} {S:Nat->Bool} {k:Nat},Fin τ S len g'->τ k=l ->
  LabX τ L k s (s.mk len (xs++rest)).1
 | .ls t,l,g,g',h,xs,hx,len,rest,τ,S,k,hf,hk=>by
  simp only [LSh.get] at h
  split at h
  ·rename_i t' ls hl
   split at h
   ·rename_i e;subst e
    simp at h;subst h
    have:xs=[⟨.tl t',ls⟩]:=by simpa [GS.put] using hx.symm
    subst this
    exact ⟨ls,rfl,fun x hx=>by rw [hk,hl] at hx;simpa using hx⟩
   ·simp at h
  ·rename_i cs hl
   split at h
   ·rename_i ls hal
    simp at h;subst h
    have:xs=[⟨.tl t,ls⟩]:=by simpa [GS.put] using hx.symm
    subst this
    exact ⟨ls,rfl,fun x hx=>by rw [hk,hl] at hx;simp at hx⟩
   ·simp at h
  ·simp at h
  ·rename_i hl
   simp at h;subst h
   have:xs=[⟨.tl t,[]⟩]:=by simpa [GS.put] using hx.symm
   subst this
   exact ⟨[],rfl,fun x hx=>by rw [hk,hl] at hx;simp at hx⟩
 | .cs ss,l,g,g',h,xs,hx,len,rest,τ,S,k,hf,hk=>by
  simp only [LSh.get] at h
  split at h
  ·rename_i ds hl
   refine ⟨ds,_,by rw [hk];exact hl,rfl,?_,xJ h,fun i s d hs hd he=>xK h hx hf.m hf.q i s d hs hd he⟩
   rw [n8,xJ h]
  ·simp at h
theorem Hn {fr:Nat} {L:DLb}:∀{sl:List (Nat×LSh)} {g g':GS},getL fr L sl g=some g'->∀{xs:List TV},g'.vs=g.vs++xs->∀{len:Nat->Nat} {rest:List TV} {τ:Nat->Nat} {S:Nat->Bool},Fin τ S len g' ->
  ∀p∈(mkL len sl (xs++rest)).1,∃s,(p.1,s)∈sl/\LabX τ L p.1 s p.2
 | [],g,g',h,xs,hx,len,rest,τ,S,hf,p,hp=>by simp [mkL] at hp
 | (l,s)::r,g,g',h,xs,hx,len,rest,τ,S,hf,p,hp=>by
  simp only [getL] at h
  split at h
  ·rename_i g0 h0
   split at h
   ·rename_i g1 h1
    obtain ⟨l1,l2,l3,l4⟩:=od h0
    obtain ⟨a1,ys,a2,a3,a4⟩:=H9 h1
    obtain ⟨b1,zs,b2,b4⟩:=wq h
    have e:xs=ys++zs:=by
     have:g.vs++xs=g.vs++(ys++zs):=by rw [<-hx,b2,a2,l1,List.append_assoc]
     exact List.append_cancel_left this
    subst e
    have hf1:=hf.sub b1
    have hf0:=hf1.sub a1
    have ht:=(hf0.m _ l4).1
    obtain ⟨c1,c2⟩:=a4 (zs++rest) hf1 ht
    simp only [mkL,List.append_assoc,c1] at hp
    rcases List.mem_cons.1 hp with rfl | hp
    ·exact ⟨s,by simp,L6 h1 a2 hf1 ht⟩
    ·obtain ⟨s',h2,h3⟩:=Hn h b2 hf p hp
     exact ⟨s',List.mem_cons_of_mem _ h2,h3⟩
   ·simp at h
  ·simp at h
end Go.SH
namespace Go.SH
inductive Task where
 | code (n:Nat) (c:Code) (al:Al) (m:Tr) (nx lo:Nat)
 | ops (n:Nat) (ops:Array Oper) (rest:List Oper) (al:Al) (m:Tr) (nx lo:Nat)
 | draw (n:Nat) (ops:Array Oper) (rest:List Oper) (fs:List Fp) (al:Al) (m:Tr) (nx lo:Nat)
 | fn (f:FuncId) (args:List PV) (m:Tr) (nx lo:Nat)
inductive Outc where
 | st (e:Exit) (al:Al) (m:Tr) (nx:Nat)
 | ret (v:PV) (m:Tr) (nx:Nat)
def of1 (G:List (Nat×List PV)) (al:Al) (m:Tr) (x:Operand):Lb:=
 match xev G al x with
 | some (.ptr l _)=>match tget m l with | some cs=>[(l,some cs)] | none=>[]
 | some (.rw l _ _ _ _)=>match tget m l with | some cs=>[(l,some cs)] | none=>[]
 | _=>[]
def rlOf (G:List (Nat×List PV)) (al:Al) (m:Tr) (o:Op):Lb:=
 match o with
 | .load _ p=>of1 G al m p
 | .store _ p _=>of1 G al m p
 | .slice _ x _ _ _=>of1 G al m x
 | .convert _ _ x=>of1 G al m x
 | .call ⟨.builtin .append,⟨[x,y]⟩,_⟩=>of1 G al m x++of1 G al m y
 | .call ⟨.builtin .copy,⟨[x,y]⟩,_⟩=>of1 G al m x++of1 G al m y
 | _=>[]
def wlOK (rl:Lb) (nx lo:Nat) (wl:Lb):Bool:=wl.all fun p=>Nat.blt nx maxL&&(p.1.beq nx||(hasL rl p.1&&Nat.ble lo p.1))
def Gh (P:Program) (al:Al) (m:Tr):List ResultVar->Option (List PV)
 | []=>some []
 | .tmp t::r=>match lget al t,Gh P al m r with
  | some x,some xs=>some (x::xs)
  | _,_=>none
 | .cell s T::r=>match lget al s,Gh P al m r with
  | some (.ptr l off),some xs=>match tget m l with
   | some cs=>match kg P T [(l,some cs)] (.ptr l off) with
    | some x=>some (x::xs)
    | none=>none
   | none=>none
  | _,_=>none
mutual
def labs:PV->List Nat
 | .ptr l _=>[l]
 | .rw l _ _ _ _=>[l]
 | .rop cells _=>labsL cells
 | .ro cells _ _=>labsL cells
 | .fn _ caps=>labsL caps
 | .iface _ v=>labs v
 | .agg cells=>labsL cells
 | .tup vs=>labsL vs
 | .yld _ _ _ _ _ vs=>ylab::labsL vs
 | .fs _ cells _ _=>flab::labsL cells
 | _=>[]
def labsL:List PV->List Nat
 | []=>[]
 | x::xs=>labs x++labsL xs
end
def qR (m:Tr):Nat->List Nat->Lb->Option Lb
 | 0,_,_=>none
 | _+1,[],acc=>some acc
 | f+1,l::r,acc=>bif hasL acc l then qR m f r acc else match tget m l with
  | some cs=>qR m f (labsL cs++r) ((l,some cs)::acc)
  | none=>none
def cW:List Operand->List Nat
 | []=>[]
 | .tmp t::r=>t::cW r
 | _::r=>cW r
def jz:Op->List Operand
 | .move x=>[x]
 | .assign x=>[x]
 | .pick c a b=>[c,a,b]
 | .binOp _ _ x y _=>[x,y]
 | .unOp _ _ x=>[x]
 | .convert _ _ x=>[x]
 | .load _ p=>[p]
 | .store _ p v=>[p,v]
 | .box _ x=>[x]
 | .build _ ps=>ps.toList.map (·.2)
 | .buildSlice _ _ ps=>ps.toList.map (·.2)
 | .fieldAddr _ x _=>[x]
 | .field _ x _=>[x]
 | .extract x _=>[x]
 | .makeFunc _ first caps=>first.toList++caps.toList
 | .makeInterface _ x=>[x]
 | .nilCheck x=>[x]
 | .indexAddr _ x i=>[x,i]
 | .index _ x i=>[x,i]
 | .slice _ x lo hi _=>x::(lo.toList++hi.toList)
 | .makeSlice _ x y=>[x,y]
 | .call ⟨.value f,args,_⟩=>f::args.toList
 | .call ⟨_,args,_⟩=>args.toList
 | _=>[]
def raOf (al:Al):List Nat->Al
 | []=>[]
 | t::r=>match lget al t with | some x=>(t,x)::raOf al r | none=>raOf al r
def gdOf (ops:Array Oper) (al:Al) (o:Oper):Bool:=match o.guard with
 | some (j,_)=>match (ops[j]?).bind (·.dst) with
  | some d=>match lget al d with | some .dead=>true | _=>false
  | none=>false
 | none=>false
def n9 (acc:List Nat):List Nat->Nat
 | []=>0
 | k::r=>Nat.lor (Nat.lor (Nat.shiftLeft 1 k) (acc.getD k 0)) (n9 acc r)
def oN:List Oper->List Nat->List Nat
 | [],acc=>acc
 | o::r,acc=>oN r (acc++[n9 acc (iK o)])
def bitB (m i:Nat):Bool:=Nat.beq (Nat.mod (Nat.shiftRight m i) 2) 1
def hasN (l:List Nat) (x:Nat):Bool:=l.any fun y=>Nat.beq y x
def px (a b:List Nat):Bool:=a.any (hasN b)
def rdS (ops:Array Oper) (o:Oper):List Nat:=(match pE ops o with | some d=>[d] | none=>[])++cW (jz o.op)
def wrS (o:Oper):List Nat:=match o.dst with | some d=>[d] | none=>[]
def xd (mk:List Nat) (j:Nat) (rj wj:List Nat):List (List Nat×List Nat)->Nat->Bool
 | [],_=>true
 | (ri,wi)::r,i=>(bitB (mk.getD j 0) i || !(px wi (rj++wj)||px wj ri))&&xd mk j rj wj r (i+1)
def allS (mk:List Nat):List (List Nat×List Nat)->List (List Nat×List Nat)->Nat->Bool
 | _,[],_=>true
 | pre,(rj,wj)::r,j=>xd mk j rj wj pre 0&&allS mk (pre++[(rj,wj)]) r (j+1)
def Ay (ops:Array Oper):Bool:=allS (oN ops.toList []) [] (ops.toList.map fun o=>(rdS ops o,wrS o)) 0
def rdL (f:Fp):List Nat:=if f.run then f.rl.map (·.1)++fnew f else []
def wrL (f:Fp):List Nat:=if f.run then f.wl.map (·.1) else []
def Az (ops:Array Oper) (fs:List Fp):Bool:=allS (oN ops.toList []) [] (fs.map fun f=>(rdL f,wrL f)) 0
def HB (n:Nat) (ops:Array Oper):Bool:=(ops.toList.all fun o=>kJ n o.dst&&(match o.guard with | some _=>(pE ops o).isSome | none=>true))&&ops.toList.all fun o=>notD o.op
def pureL (fs:List Fp):Bool:=fs.all fun f=>match f.wl with | []=>true | _=>false
def sN (fs:List Fp):Bool:=fs.all fun f=>rE f.wl
def LQ:Exit->Bool
 | .normal=>true
 | .ret=>true
 | _=>false
def nxt (nx:Nat):Lb->Nat
 | []=>nx
 | _=>nx+1
def fresh (nx:Nat) (rl:Lb):Lb:=rl.filter fun p=>Nat.ble nx p.1
def tree (rl:Lb):Tr:=tupd .nil rl
def B3 (rl:Lb):List Nat:=rl.map (·.1)
def lm:Code->Bool
 | .seq x y=>lm x&&lm y
 | .cond _ x y=>lm x&&lm y
 | .block _ c=>lm c
 | .loop c=>lm c
 | .scope c=>lm c
 | .rangeFunc _ _ _ _=>false
 | _=>true
def Aa (ps:List Nat) (xs:List PV) (ts:List Nat) (vs:List PV):Al:=(ps.zip xs).foldl (fun al p=>p::al) (ts.zip vs)
def uni (al:Al):Al:=raOf al (al.map (·.1))
def C4 (al:Al):List PV:=al.map (·.2)
def Kw (al:Al):List Nat:=al.map (·.1)
def yOK (m:Nat) (ps:List Nat) (xs:List PV) (ts:List Nat) (vs:List PV) (assign body:Code):Bool:=
 Nat.beq ps.length xs.length&&(Nat.beq ts.length vs.length&&(ps.all (fun p=>Nat.blt p m)&&(lm assign&&lm body)))
def Gg (ih:Task->Option Outc) (n:Nat) (body:Code) (lo:Nat):Nat->Code->Al->Tr->Nat->Option Outc
 | 0,_,_,_,_=>none
 | f+1,c,al,m,nx=>match ih (.code n c al m nx lo) with
  | some (.st e al' m' nx')=>match e with
   | .goto l=>match findLabel body l with
    | some rest=>Gg ih n body lo f rest al' m' nx'
    | none=>some (.st (.goto l) al' m' nx')
   | e=>some (.st e al' m' nx')
  | _=>none
def LZ (P:Program) (G:List (Nat×List PV)) (ih:Task->Option Outc):Task->Option Outc
 | .code n c al m nx lo=>match c with
  | .skip=>some (.st .normal al m nx)
  | .seq x y=>match ih (.code n x al m nx lo) with
   | some (.st e al' m' nx')=>match e with
    | .normal=>ih (.code n y al' m' nx' lo)
    | e=>some (.st e al' m' nx')
   | _=>none
  | .cond (.tmp t) x y=>match lget al t with
   | some (.bool b)=>bif b then ih (.code n x al m nx lo) else ih (.code n y al m nx lo)
   | _=>none
  | .cond (.const (.bool b)) x y=>bif b then ih (.code n x al m nx lo) else ih (.code n y al m nx lo)
  | .block i c=>match ih (.code n c al m nx lo) with
   | some (.st e al' m' nx')=>match e with
    | .exit j=>bif j.beq i then some (.st .normal al' m' nx') else some (.st (.exit j) al' m' nx')
    | e=>some (.st e al' m' nx')
   | _=>none
  | .loop c=>match ih (.code n c al m nx lo) with
   | some (.st e al' m' nx')=>match e with
    | .normal=>ih (.code n (.loop c) (raOf al' (al.map (·.1))) m' nx' lo)
    | e=>some (.st e al' m' nx')
   | _=>none
  | .exit i=>some (.st (.exit i) al m nx)
  | .goto i=>some (.st (.goto i) al m nx)
  | .scope c=>Gg ih n c lo 64 c al m nx
  | .ret=>some (.st .ret al m nx)
  | .label _=>some (.st .normal al m nx)
  | .rangeFunc g ps assign body=>match xev G al g with
   | some (.fn f caps)=>match qR m 100000 (labsL (C4 (uni al)++caps)) [] with
    | some rl=>match ih (.fn f (.yld n ps.toList assign body (Kw (uni al)) (C4 (uni al))::caps) (tree rl) nx lo) with
     | some (.ret v m' nx')=>match qR m' 100000 (labs v++B3 rl) [] with
      | some rl'=>some (.st .normal al (tupd m rl') nx')
      | none=>none
     | _=>none
    | none=>none
   | _=>none
  | .region _ ops false=>ih (.ops n ops ops.toList al m nx lo)
  | .region _ ops true=>ih (.draw n ops ops.toList [] al m nx lo)
  | _=>none
 | .ops n ops rest al m nx lo=>match rest with
  | []=>some (.st .normal al m nx)
  | o::rest=>match ge ops al o with
   | some true=>match o.op with
    | .call ⟨.value fo,args,_⟩=>match xev G al fo,xevs G al args.toList with
     | some (.fn f caps),some xs=>match ih (.fn f (xs++caps) m nx lo) with
      | some (.ret v m' nx')=>bif kJ n o.dst then ih (.ops n ops rest (oset o.dst v al) m' nx' lo) else none
      | _=>none
     | some (.yld k ps assign body ts vs),some xs=>match qR m 100000 (labsL (vs++xs)) [] with
      | some rl=>bif yOK k ps xs ts vs assign body&&kJ n o.dst then (match ih (.code k assign (Aa ps xs ts vs) (tree rl) nx lo) with
       | some (.st .normal al1 m1 nx1)=>match qR m1 100000 (labsL (C4 (uni al1))++B3 rl) [] with
        | some rl1=>match ih (.code k body (uni al1) (tree rl1) nx1 lo) with
         | some (.st .normal al2 m2 nx2)=>match qR m2 100000 (B3 rl) [] with
          | some rl2=>ih (.ops n ops rest (oset o.dst (.bool true) al) (tupd m rl2) nx2 lo)
          | none=>none
         | _=>none
        | none=>none
       | _=>none) else none
      | none=>none
     | _,_=>none
    | op=>match xop2 P G o al (rlOf G al m op) nx with
     | some (x,wl)=>bif kJ n o.dst&&wlOK (rlOf G al m op) nx lo wl then ih (.ops n ops rest (oset o.dst x al) (tupd m wl) (nxt nx wl) lo) else none
     | none=>none
   | some false=>bif kJ n o.dst then ih (.ops n ops rest (oset o.dst .dead al) m nx lo) else none
   | none=>none
 | .draw n ops rest fs al m nx lo=>match rest with
  | []=>bif wx ops&&(Ay ops&&HB n ops) then (bif pureL fs||(sN fs&&Az ops fs.reverse) then some (.st .normal al m nx) else none) else none
  | o::rest=>match ge ops al o with
   | some true=>match o.op with
    | .call ⟨.value fo,args,_⟩=>match xev G al fo,xevs G al args.toList with
     | some (.fn f caps),some xs=>match qR m 100000 (labsL (xs++caps)) [] with
      | some rl=>match ih (.fn f (xs++caps) (tree rl) nx nx) with
       | some (.ret v m' nx')=>match qR m' 100000 (labs v++B3 rl) [] with
        | some rl'=>ih (.draw n ops rest (⟨raOf al (cW (jz o.op)),rl,v,fresh nx rl',true,false⟩::fs) (oset o.dst v al) (tupd m (fresh nx rl')) nx' lo)
        | none=>none
       | _=>match ih (.fn f (xs++caps) (tree rl) nx lo) with
        | some (.ret v m' nx')=>match qR m' 100000 (labs v++B3 rl) [] with
         | some rl'=>ih (.draw n ops rest (⟨raOf al (cW (jz o.op)),rl,v,rl',true,false⟩::fs) (oset o.dst v al) (tupd m rl') nx' lo)
         | none=>none
        | _=>none
      | none=>none
     | _,_=>none
    | op=>match xop2 P G o (raOf al (cW (jz op))) (rlOf G (raOf al (cW (jz op))) m op) nx with
     | some (x,wl)=>bif wlOK (rlOf G (raOf al (cW (jz op))) m op) nx lo wl then
       ih (.draw n ops rest (⟨raOf al (cW (jz op)),rlOf G (raOf al (cW (jz op))) m op,x,wl,true,false⟩::fs) (oset o.dst x al) (tupd m wl) (nxt nx wl) lo) else none
     | none=>none
   | some false=>ih (.draw n ops rest (⟨[],[],.dead,[],false,gdOf ops al o⟩::fs) (oset o.dst .dead al) m nx lo)
   | none=>none
 | .fn f args m nx lo=>match P.funcs[f]? with
  | some fn=>match fn.body with
   | some c=>bif Nat.ble args.length fn.ntmps then (match ih (.code fn.ntmps c (lQ args 0) m nx lo) with
    | some (.st e al' m' nx')=>bif LQ e then (match Gh P al' m' fn.results.toList with
     | some xs=>some (.ret (rtup xs) m' nx')
     | none=>none) else none
    | _=>none) else none
   | none=>none
  | none=>none
def X (P:Program) (G:List (Nat×List PV)):Nat->Task->Option Outc
 | 0=>fun _=>none
 | k+1=>LZ P G (X P G k)
end Go.SH
namespace Go.SH
section
variable {E:Env} {K:Nat->Prop} {n:Nat} {al:Al} {L:Lb} {Q:Exit->Al->Lb->Prop}
theorem Bx {P:Program} {b:Frame} {a:Act} {k:List Item} {cs:List Frame} {w:World} {c:Code}:step P (lone (b.atR a (.code (.scope c)::k)) cs w) = .next (lone (b.atR a (.code c :: .inScope c::k)) cs w):=
 step_lone_go (by simp [stepG,stepG.exec,Frame.atR])
theorem yw {P:Program} {b:Frame} {a:Act} {k:List Item} {cs:List Frame} {w:World} {c:Code}:step P (lone (b.atR a (.inScope c::k)) cs w) = .next (lone (b.atR a k) cs w):=
 step_lone_go (by simp [stepG,stepG.exec,Frame.atR])
def AWsc (E:Env) (K:Nat->Prop) (n:Nat) (body c:Code) (Q:Exit->Al->Lb->Prop) (al:Al) (L:Lb):Prop:=
 ∀A w σ a,Rel E A w σ al L a->a.tmps.size=n->∀b k cs,b.roundOf=(fen E.ro).round->(fen E.ro).fn b.fn->(fen E.ro).room (cs.length+1+0)->∃e a' w',Post E K A w σ L n Q e a' w'/\ArrivesIn (Machine.fenced E.P (fen E.ro)) E.P (lone (b.atR a (.code c :: .inScope body::k)) cs w) b k cs e a' w'
theorem Ii {c:Code} (h:AWsc E K n c c Q al L):AW E K n (.scope c) Q al L:=by
 intro A w σ a r t b k cs hro hb hrm
 obtain ⟨e,a',w',hq,harr⟩:=h A w σ a r t b k cs hro hb hrm
 exact ⟨e,a',w',hq,.of_steps (.one (fenced_calm hb hrm rfl) Bx) harr⟩
def Aj (E:Env) (K:Nat->Prop) (n:Nat) (body:Code) (Q:Exit->Al->Lb->Prop):Exit->Al->Lb->Prop
 | .goto l,al,L=>match findLabel body l with | some rest=>AWsc E K n body rest Q al L | none=>Q (.goto l) al L
 | e,al,L=>Q e al L
theorem CO {body c:Code} (h:AW E K n c (Aj E K n body Q) al L):AWsc E K n body c Q al L:=by
 intro A w σ a r t b k cs hro hb hrm
 obtain ⟨e,a₁,w₁,⟨al₁,L₁,σ₁,q,r₁,g₁,t₁⟩,harr⟩:=h A w σ a r t b (.inScope body::k) cs hro hb hrm
 cases e with
 | normal=>exact ⟨.normal,a₁,w₁,⟨al₁,L₁,σ₁,q,r₁,g₁,t₁⟩,StepsIn.trans harr (.one (fenced_calm hb hrm rfl) yw)⟩
 | exit id=>exact ⟨_,a₁,w₁,⟨al₁,L₁,σ₁,q,r₁,g₁,t₁⟩,fun k' hk=>harr.1 k' (by simp [exitTo,hk]),fun hr hk=>harr.2 hr (by simp [exitTo,hk])⟩
 | goto l=>
  simp only [Aj] at q
  cases hf:findLabel body l with
  | none=>
   rw [hf] at q
   have hg:gotoIn l (.inScope body::k)=gotoIn l k:=by simp [gotoIn,hf]
   exact ⟨_,a₁,w₁,⟨al₁,L₁,σ₁,q,r₁,g₁,t₁⟩,fun k' hk=>harr.1 k' (by rw [hg];exact hk),fun hr hk=>harr.2 hr (by rw [hg];exact hk)⟩
  | some rest=>
   rw [hf] at q
   have hg:gotoIn l (.inScope body::k)=some (.code rest :: .inScope body::k):=by simp [gotoIn,hf]
   obtain ⟨e₂,a₂,w₂,hq₂,harr₂⟩:=q A w₁ σ₁ a₁ r₁ t₁ b k cs hro hb hrm
   exact ⟨e₂,a₂,w₂,Post.trans g₁ hq₂,.of_steps (harr.1 _ hg) harr₂⟩
 | ret=>exact ⟨_,a₁,w₁,⟨al₁,L₁,σ₁,q,r₁,g₁,t₁⟩,harr⟩
 | panic ch=>exact ⟨_,a₁,w₁,⟨al₁,L₁,σ₁,q,r₁,g₁,t₁⟩,harr⟩
 | outgrown=>exact ⟨_,a₁,w₁,⟨al₁,L₁,σ₁,q,r₁,g₁,t₁⟩,harr⟩
theorem se {S:Nat->Bool} {x:PV} (h:iY x=true):am S x=true:=by
 have:∀x:PV,am (fun _=>false) x=true->am S x=true:=by
  intro x
  apply PV.rec (motive_1:=fun x=>am (fun _=>false) x=true->am S x=true) (motive_2:=fun xs=>ag (fun _=>false) xs=true->ag S xs=true)
  all_goals intros
  all_goals simp_all [am,ag]
 exact this x h
theorem Rel.growN {E:Env} (hG:GOK E) {A K:Nat->Prop} {w w':World} {σ σ':Sig} {al:Al} {L L':Lb} {a:Act} (h:Rel E A w σ al L a) (hnf:∀t x,lget al t=some x->am noF x=true) (hb:BR w' σ' A L') (hg:Grow K w σ L w' σ' L') (hK:∀l,l≠de->K l):Rel E A w' σ' al L' a:=
 ⟨fun t x hx=>let ⟨v,h1,h2⟩:=h.tmps t x hx;⟨v,h1,h2.growN (hnf t x hx) hg hK⟩,hb,fun g cells hc=>(h.globals g cells hc).growN (se (by simp [iY,am,hG g cells hc])) hg hK,h.nodefer.grow h.blocks hg⟩
end
theorem cL.useG {E:Env} {T:World->List Value->(Ending->World->Prop)->Prop} (hT:∀w cargs (R R':Ending->World->Prop),(∀e w',R e w'->R' e w')->T w cargs R->T w cargs R') {args:List PV} {v:PV} {rl LL wl:Lb} (hG:GOK E) (h:cL E T args rl fun r L'=>r=v/\L'=LL)
  (hw:ag (hasL rl) args=true) (hc:∀l cells,lget rl l=some (some cells)->ag (hasL rl) cells=true)
  (hkeys:∀l,lget rl l≠none->lget LL l≠none) (hnew:∀l y,lget LL l=some y->lget rl l=none->∃p∈wl,p.1=l)
  (heq:∀(L:Lb) (l:Nat),(∀l y,lget rl l=some y->lget L l=some y)->lget (lupd L wl) l=lget (LL++L) l)
  {A:Nat->Prop} {w:World} {σ:Sig} {al:Al} {L:Lb} {a:Act} (r:Rel E A w σ al L a) (hno:Kst rl\/∀l cells,lget rl l=none->lget L l=some (some cells)->ag noF cells=true) (h2:∀l y,lget rl l=some y->lget L l=some y) (h3:∀p∈wl,lget rl p.1≠none\/lget L p.1=none)
  {cargs:List Value} (hl:cargs.length=args.length) (hcv:∀(i:Nat) (x:PV) (v:Value),args[i]?=some x->cargs[i]?=some v->VR w σ (avo A σ L) x v) :
  T w cargs fun e w'=>∃σ' c,e = .returned c/\VR w' σ' (avo A σ' (lupd L wl)) v c/\BR w' σ' A (lupd L wl)/\Grow (Kx rl) w σ L w' σ' (lupd L wl):=by
 refine hT _ _ _ _ ?_ (h.frameG hT h2 hw hc hno r hl hcv hG)
 rintro e w' ⟨x,c,L1',rfl,⟨rfl,rfl⟩,hk⟩
 obtain ⟨σ',e1,e2,e3⟩:=hk (fun l hl=>by
  by_cases hr:lget rl l=none
  ·cases hy:lget L1' l with
   | none=>exact absurd hy hl
   | some y=>
    obtain ⟨p,hp,rfl⟩:=hnew l y hy hr
    rcases h3 p hp with h | h
    ·exact .inl h
    ·exact .inr h
  ·exact .inl hr) hkeys
 have hq:=fun l=>heq L l h2
 have hgg:Grow top w' σ' (L1'++L) w' σ' (lupd L wl):=⟨Nat.le_refl _,fun _ _ _ h=>h,fun β _ hn=>⟨fun ha=>hn ((lT hq β).1 ha),rfl⟩,⟨rfl,rfl,rfl⟩,fun _ _ _ _ h=>⟨h,rfl⟩⟩
 refine ⟨σ',c,rfl,e1.grow hgg,⟨?_,?_,?_,?_,e2.fr.mono (Nat.le_refl _) (fun _ _ _ k=>k) (fun _ _ _ _=>rfl) fun _ β _ _=>(ma hq β).1⟩,e3.trans (hgg.weaken fun _ _=>trivial)⟩
 ·intro l cells hl
  rw [hq] at hl
  rcases e2.all l cells hl with h1 | ⟨β,add,size,c,T,fr,hB⟩
  ·exact .inl h1
  ·exact .inr ⟨β,add,size,c,T,fr,⟨hB.sig,hB.heap,hB.hsz,hB.fits,fun i x hx=>let ⟨v,h1,h2⟩:=hB.vals i x hx;⟨v,h1,h2.grow hgg⟩,hB.frs⟩⟩
 ·intro l l' c c' β a s a' s' h1 h2;rw [hq] at h1 h2;exact e2.inj l l' c c' β a s a' s' h1 h2
 ·intro l x hx;rw [hq];exact e2.dom l x hx
 ·intro β hA;obtain ⟨h1,h2⟩:=e2.lo β hA;exact ⟨h1,fun ha=>h2 ((lT hq β).1 ha)⟩
theorem cL.use {E:Env} {T:World->List Value->(Ending->World->Prop)->Prop} (hT:∀w cargs (R R':Ending->World->Prop),(∀e w',R e w'->R' e w')->T w cargs R->T w cargs R') {args:List PV} {v:PV} {rl LL wl:Lb} (hG:GOK E) (h:cL E T args rl fun r L'=>r=v/\L'=LL)
  (hw:ag (hasL rl) args=true) (hc:∀l cells,lget rl l=some (some cells)->ag (hasL rl) cells=true)
  (hkeys:∀l,lget rl l≠none->lget LL l≠none) (hnew:∀l y,lget LL l=some y->lget rl l=none->∃p∈wl,p.1=l)
  (heq:∀(L:Lb) (l:Nat),(∀l y,lget rl l=some y->lget L l=some y)->lget (lupd L wl) l=lget (LL++L) l)
  {A:Nat->Prop} {w:World} {σ:Sig} {al:Al} {L:Lb} {a:Act} (r:Rel E A w σ al L a) (hno:Kst rl) (h2:∀l y,lget rl l=some y->lget L l=some y) (h3:∀p∈wl,lget rl p.1≠none\/lget L p.1=none)
  {cargs:List Value} (hl:cargs.length=args.length) (hcv:∀(i:Nat) (x:PV) (v:Value),args[i]?=some x->cargs[i]?=some v->VR w σ (avo A σ L) x v) :
  T w cargs fun e w'=>∃σ' c,e = .returned c/\VR w' σ' (avo A σ' (lupd L wl)) v c/\BR w' σ' A (lupd L wl)/\Grow top w σ L w' σ' (lupd L wl):=
 hT _ _ _ _ (fun _ _ ⟨σ',c,e1,e2,e3,e4⟩=>⟨σ',c,e1,e2,e3,e4.strong hno⟩) (h.useG hT hG hw hc hkeys hnew heq r (.inl hno) h2 h3 hl hcv)
section
variable {E:Env} {d:Option Tmp} {ty:TypeId} {pos:String} {after:Array Edge} {g:Option (Nat×Bool)} {ra:Al} {rl:Lb}
theorem u0 {fo:Operand} {args:Array Operand} {ts:Array TypeId} {f:FuncId} {caps xs:List PV} {v:PV} {LL wl:Lb} (hG:GOK E) (hf:xev E.G ra fo=some (.fn f caps)) (hx:xevs E.G ra args.toList=some xs)
  (hrun:∀args w,(callFunc f args).run E.P w = .ok (.enter f args) w) (h:dQ E f (xs++caps) rl fun r L'=>r=v/\L'=LL)
  (hw:ag (hasL rl) (xs++caps)=true) (hc:∀l cells,lget rl l=some (some cells)->ag (hasL rl) cells=true)
  (hkeys:∀l,lget rl l≠none->lget LL l≠none) (hnew:∀l y,lget LL l=some y->lget rl l=none->∃p∈wl,p.1=l)
  (heq:∀(L:Lb) (l:Nat),(∀l y,lget rl l=some y->lget L l=some y)->lget (lupd L wl) l=lget (LL++L) l) (hno:Kst rl):AOp E ⟨d,.call ⟨.value fo,args,ts⟩,ty,pos,after,g⟩ ra rl v wl:=by
 intro A w σ al L a r h1 h2 h3
 obtain ⟨cargs,hr,hl,hcv⟩:=wZ (d:=d) (ty:=ty) (pos:=pos) (after:=after) (g:=g) (ts:=ts) r h1 hf hx hrun
 unfold Oper.wp
 rw [hr]
 exact (cL.use (T:=fun w cargs R=>Calls E.P f cargs.toArray w R) (fun w cargs R R' hr h=>h.mono hr) hG h hw hc hkeys hnew heq r hno h2 h3 (by omega) hcv).mono fun e w' ⟨σ',c,he,e1,e2,e3⟩=>by subst he;exact ⟨σ',c,rfl,e1,e2,e3⟩
def AOpW (E:Env) (o:Oper) (ra:Al) (rl:Lb) (x:PV) (wl:Lb):Prop:=
 ∀A w σ al L a,Rel E A w σ al L a->(∀t y,lget ra t=some y->lget al t=some y)->(∀l y,lget rl l=some y->lget L l=some y)->(∀p∈wl,lget rl p.1≠none\/lget L p.1=none) ->
  (∀l cells,lget rl l=none->lget L l=some (some cells)->ag noF cells=true) ->
  o.wp E.P a w (fun a' w'=>∃σ' c,a'=a.put o.dst c/\VR w' σ' (avo A σ' (lupd L wl)) x c/\BR w' σ' A (lupd L wl)/\Grow (fun l=>l≠de) w σ L w' σ' (lupd L wl)) fun _ _ _=>False
theorem Ge {fo:Operand} {args:Array Operand} {ts:Array TypeId} {f:FuncId} {caps xs:List PV} {v:PV} {LL wl:Lb} (hG:GOK E) (hf:xev E.G ra fo=some (.fn f caps)) (hx:xevs E.G ra args.toList=some xs)
  (hrun:∀args w,(callFunc f args).run E.P w = .ok (.enter f args) w) (h:dQ E f (xs++caps) rl fun r L'=>r=v/\L'=LL)
  (hw:ag (hasL rl) (xs++caps)=true) (hc:∀l cells,lget rl l=some (some cells)->ag (hasL rl) cells=true)
  (hkeys:∀l,lget rl l≠none->lget LL l≠none) (hnew:∀l y,lget LL l=some y->lget rl l=none->∃p∈wl,p.1=l)
  (heq:∀(L:Lb) (l:Nat),(∀l y,lget rl l=some y->lget L l=some y)->lget (lupd L wl) l=lget (LL++L) l):AOpW E ⟨d,.call ⟨.value fo,args,ts⟩,ty,pos,after,g⟩ ra rl v wl:=by
 intro A w σ al L a r h1 h2 h3 hno
 obtain ⟨cargs,hr,hl,hcv⟩:=wZ (d:=d) (ty:=ty) (pos:=pos) (after:=after) (g:=g) (ts:=ts) r h1 hf hx hrun
 unfold Oper.wp
 rw [hr]
 exact (cL.useG (T:=fun w cargs R=>Calls E.P f cargs.toArray w R) (fun w cargs R R' hr h=>h.mono hr) hG h hw hc hkeys hnew heq r (.inr hno) h2 h3 (by omega) hcv).mono fun e w' ⟨σ',c,he,e1,e2,e3⟩=>by subst he;exact ⟨σ',c,rfl,e1,e2,e3.weaken fun l hl e=>absurd e hl⟩
theorem JD {K:Nat->Prop} {n:Nat} {al:Al} {L:Lb} {ops:Array Oper} {rest:List Oper} {o:Oper} {Q:Exit->Al->Lb->Prop} {x:PV} {wl:Lb} (h:AOpW E o ra rl x wl) (hG:GOK E) (hnf:∀t x,lget al t=some x->am noF x=true) (hK:¬K de)
  (hno:∀l cells,lget rl l=none->lget L l=some (some cells)->ag noF cells=true) (hd:∀t,o.dst=some t->t<n) (h1:∀t y,lget ra t=some y->lget al t=some y) (h2:∀l y,lget rl l=some y->lget L l=some y)
  (h3:∀p∈wl,lget rl p.1≠none\/lget L p.1=none) (hg:ge ops al o=some true)
  (k:AWl E K n ops rest Q (oset o.dst x al) (lupd L wl)):AWl E K n ops (o::rest) Q al L:=by
 intro A w σ a r t
 simp only [wpListIn]
 rw [if_pos (km r hg)]
 have hop:=h A w σ al L a r h1 h2 h3 hno
 refine gL (qx (ur hop ?_) hop) ?_ fun _ _ _ h=>h.elim
 ·rintro a' w' ⟨σ',c,rfl,_⟩;exact nY _ _ _
 rintro a' w' ⟨σ',c,rfl,hv,hb,hgr⟩
 have r':=(r.growN hG hnf hb hgr fun l h=>h).put (d:=o.dst) (fun u hu=>by rw [t];exact hd u hu) hv
 refine cF ?_ _ _ _ (k A w' σ' _ r' (by rw [kA];exact t))
 exact fun e a w h=>Post.trans (hgr.weaken fun l hl e=>hK (e▸hl)) h
end
end Go.SH
namespace Go.SH
def fL (a:Act) (ts:List Nat):List Value:=ts.map fun t=>a.tmps.getD t undef
theorem BB {E:Env} {A:Nat->Prop} {w:World} {σ:Sig} {al:Al} {L:Lb} {a:Act} (r:Rel E A w σ al L a) {ts:List Nat} {vs:List PV} (hal:∀(i t:Nat) (x:PV),ts[i]?=some t->vs[i]?=some x->lget al t=some x) (hlen:ts.length=vs.length) :
  (∀(i t:Nat) (v:Value),ts[i]?=some t->(fL a ts)[i]?=some v->a.tmps[t]?=some v)/\∀(i:Nat) (x:PV) (v:Value),vs[i]?=some x->(fL a ts)[i]?=some v->VR w σ (avo A σ L) x v:=by
 have key:∀(i t:Nat) (v:Value),ts[i]?=some t->(fL a ts)[i]?=some v->∃x,vs[i]?=some x/\a.tmps[t]?=some v/\VR w σ (avo A σ L) x v:=by
  intro i t v ht hv
  have hi:i<vs.length:=by rw [<-hlen];exact (List.getElem?_eq_some_iff.1 ht).1
  have hx:vs[i]?=some vs[i]:=List.getElem?_eq_getElem hi
  obtain ⟨u,h1,h2⟩:=r.tmps t _ (hal i t _ ht hx)
  simp only [fL,List.getElem?_map,ht,Option.map_some,Option.some.injEq] at hv
  rw [Array.getD_eq_getD_getElem?,h1] at hv
  simp at hv;subst hv
  exact ⟨_,hx,h1,h2⟩
 refine ⟨fun i t v ht hv=>let ⟨_,_,h,_⟩:=key i t v ht hv;h,fun i x v hx hv=>?_⟩
 have hi:i<ts.length:=by rw [hlen];exact (List.getElem?_eq_some_iff.1 hx).1
 obtain ⟨y,h1,_,h2⟩:=key i _ v (List.getElem?_eq_getElem hi) hv
 rw [hx] at h1;simp at h1;subst h1;exact h2
theorem zU (w:World) (o:Obj) {β:Nat} (hb:β<w.heap.size):(w.alloc o).heap[β]?=w.heap[β]?:=by
 show (w.heap.push o)[β]?=_;rw [Array.getElem?_push];simp [Nat.ne_of_lt hb]
theorem BR.more {w w':World} {σ:Sig} {A:Nat->Prop} {L:Lb} (h:BR w σ A L) (hs:w.heap.size<=w'.heap.size) (hh:∀β,β<w.heap.size->w'.heap[β]?=w.heap[β]?) (ho:w'.os=w.os/\w'.output=w.output/\w'.tape=w.tape) :
  BR w' σ A L/\Grow top w σ L w' σ L:=by
 have hg:Grow top w σ L w' σ L:=⟨hs,fun _ _ _ h=>h,fun β hb hn=>⟨hn,hh β hb⟩,ho,fun _ q β add hq=>⟨hq,hh β (h.fr.fam q β add hq).1⟩⟩
 refine ⟨⟨?_,h.inj,h.dom,fun β hA=>⟨Nat.lt_of_lt_of_le (h.lo β hA).1 hs,(h.lo β hA).2⟩,h.fr.mono hs (fun _ _ _ k=>k) (fun q β add k=>hh β (h.fr.fam q β add k).1) fun _ _ _ _ k=>k⟩,hg⟩
 intro l cells hl
 rcases h.all l cells hl with h1 | ⟨β,add,size,c,T,fr,hB⟩
 ·exact .inl h1
 ·exact .inr ⟨β,add,size,c,T,fr,⟨hB.sig,by rw [hh β (h.lt (.inl ⟨l,cells,_,_,hl,hB.sig⟩))];exact hB.heap,hB.hsz,hB.fits,fun i x hx=>let ⟨v,h1,h2⟩:=hB.vals i x hx;⟨v,h1,h2.grow hg⟩,hB.frs⟩⟩
theorem BR.allocO {w:World} {σ:Sig} {A:Nat->Prop} {L:Lb} (h:BR w σ A L) (o:Obj):BR (w.alloc o) σ A L/\Grow top w σ L (w.alloc o) σ L:=
 h.more (by simp) (fun β hb=>zU w o hb) ⟨rfl,rfl,rfl⟩
abbrev dD (fn:Nat) (tmps:Array Value) (ps:List Nat) (assign body:Code) (dfr:Nat):Loop:={ state:=.ready,pending:=none,fn:=fn,tmps:=tmps,params:=ps.toArray,assign:=assign,body:=body,defers:=dfr }
def rA (P:Program) (f:FuncId) (tmps:Array Value) (ps:List Nat) (assign body:Code) (cvs cs:List Value) (W:World) (cargs:List Value) (R:Ending->World->Prop):Prop:=
 cargs=cvs++cs->∀fn,Calls P f (#[.func (.yield (W.heap.size+1)) #[] #[]]++cs.toArray) ((W.alloc (.deferred (some []))).alloc (.loop (dD fn tmps ps assign body W.heap.size)))
  fun e w3=>(∃v,e = .returned v)/\w3.heap[W.heap.size+1]?=some (.loop (dD fn tmps ps assign body W.heap.size))/\w3.heap[W.heap.size]?=some (.deferred (some [])) /\
   R (.returned (.tuple #[])) (w3.putObj (W.heap.size+1) (.loop { dD fn tmps ps assign body W.heap.size with state:=.exhausted }))
theorem vh {P:Program} {f:FuncId} {tmps:Array Value} {ps:List Nat} {assign body:Code} {cvs cs:List Value}:∀(w:World) (cargs:List Value) (R R':Ending->World->Prop),(∀e w',R e w'->R' e w')->rA P f tmps ps assign body cvs cs w cargs R->rA P f tmps ps assign body cvs cs w cargs R':=
 fun w cargs R R' hr h hc fn=>(h hc fn).mono fun e w3 ⟨h1,h2,h3,h4⟩=>⟨h1,h2,h3,hr _ _ h4⟩
section
variable {E:Env} {K:Nat->Prop} {n:Nat} {al:Al} {L:Lb} {Q:Exit->Al->Lb->Prop}
theorem Fv {f:FuncId} {ps:List Nat} {assign body:Code} {ts:List Nat} {vs caps:List PV} {v:PV} {rl LL:Lb} {tmps:Array Value} {cvs cs:List Value} {m:Nat}
  (h:dQ E f (.yld m ps assign body ts vs::caps) rl fun r L'=>r=v/\L'=LL) (hcl:∀l cells,lget LL l=some (some cells)->ag (hasL LL) cells=true) (hyl:hasL LL ylab=false)
  (hz:tmps.size=m) (hcv:cvs.length=vs.length) (hcs:cs.length=caps.length) (ht:∀(i t:Nat) (v:Value),ts[i]?=some t->cvs[i]?=some v->tmps[t]?=some v) :
  cL E (rA E.P f tmps ps assign body cvs cs) (vs++caps) rl fun r L'=>r = .tup []/\L'=LL:=by
 intro A w σ cargs hl hvr hb hg hc fn
 subst hc
 obtain ⟨b1,g1⟩:=hb.allocO (.deferred (some []))
 obtain ⟨b2,g2⟩:=b1.allocO (.loop (dD fn tmps ps assign body w.heap.size))
 have g12:=g1.trans g2
 have hl2:((w.alloc (.deferred (some []))).alloc (.loop (dD fn tmps ps assign body w.heap.size))).heap[w.heap.size+1]?=some (.loop (dD fn tmps ps assign body w.heap.size)):=by
  have:=World.alloc_heap_new (w.alloc (.deferred (some []))) (.loop (dD fn tmps ps assign body w.heap.size));rwa [World.size_alloc] at this
 have hd2:((w.alloc (.deferred (some []))).alloc (.loop (dD fn tmps ps assign body w.heap.size))).heap[w.heap.size]?=some (.deferred (some [])):=
  (zU _ _ (by simp)).trans (World.alloc_heap_new w _)
 have hnl:∀c T fr,Obj.loop (dD fn tmps ps assign body w.heap.size) ≠ .cells c T fr:=fun _ _ _ h=>by cases h
 have hnd:∀c T fr,Obj.deferred (some []) ≠ .cells c T fr:=fun _ _ _ h=>by cases h
 have hav:¬avo A σ rl (w.heap.size+1):=by
  rintro (h1 | h1)
  ·have:=(hb.lo _ h1).1;omega
  ·exact b2.notAv hl2 hnl h1
 have H:=h A _ σ (.func (.yield (w.heap.size+1)) #[] #[]::cs) (by simp [hcs]) (fun i x v hx hv=>by
  cases i with
  | zero=>
   simp at hx hv;subst hx;subst hv
   refine .yld (w.heap.size+1) fn w.heap.size tmps cvs hav hl2 hz hcv.symm ht fun i x v hx hv=>?_
   have hi:i<vs.length:=(List.getElem?_eq_some_iff.1 hx).1
   exact (hvr i x v (by rw [List.getElem?_append_left hi];exact hx) (by rw [List.getElem?_append_left (by omega)];exact hv)).grow g12
  | succ i=>
   simp at hx hv
   exact (hvr (vs.length+i) x v (by rw [List.getElem?_append_right (by omega)];simpa using hx) (by rw [List.getElem?_append_right (by omega)];rw [hcv];simpa using hv)).grow g12) b2 (fun g cells hgc=>(hg g cells hgc).grow g12)
 have e0:(Value.func (.yield (w.heap.size+1)) #[] #[]::cs).toArray=#[.func (.yield (w.heap.size+1)) #[] #[]]++cs.toArray:=by simp
 rw [<-e0]
 refine H.mono ?_
 ·rintro e w3 ⟨r,c,L',σ',rfl,⟨rfl,rfl⟩,hv',hb',hgr⟩
  have s1:w.heap.size+1<((w.alloc (.deferred (some []))).alloc (.loop (dD fn tmps ps assign body w.heap.size))).heap.size:=(Array.getElem?_eq_some_iff.1 hl2).1
  have s2:w.heap.size<((w.alloc (.deferred (some []))).alloc (.loop (dD fn tmps ps assign body w.heap.size))).heap.size:=by omega
  have hl3:=(hgr.keep _ s1 (b2.notAv hl2 hnl)).2.trans hl2
  have hd3:=(hgr.keep _ s2 (b2.notAv hd2 hnd)).2.trans hd2
  have hT:=Turn.put w3 (w.heap.size+1) (.loop { dD fn tmps ps assign body w.heap.size with state:=.exhausted })
  refine ⟨⟨_,rfl⟩,hl3,hd3,.tup [],_,L',σ',rfl,⟨rfl,rfl⟩,.tup [] rfl (by simp),hb'.turn (S:=hasL L') hT hl3 hnl (.inr ⟨hyl,hcl⟩),?_⟩
  exact ((g12.weaken fun _ _=>trivial).trans hgr).turn hT (.inl (by omega)) fun q β add k=>(hb.fr.fam q β add k).1
theorem Ij {b:Nat} (hro:E.ro=none) (hmb:E.mb=some b) {g:Operand} {ps:Array Tmp} {assign body:Code} {f:FuncId} {caps vs:List PV} {ts:List Nat} {rl LL wl:Lb} (hG:GOK E) (hg:xev E.G al g=some (.fn f caps))
  (hrun:∀args w,(callFunc f args).run E.P w = .ok (.enter f args) w) (hal:∀(i t:Nat) (x:PV),ts[i]?=some t->vs[i]?=some x->lget al t=some x) (hlen:ts.length=vs.length)
  (h:∀(tmps:Array Value) (cvs cs:List Value),tmps.size=n->cvs.length=vs.length->cs.length=caps.length->(∀(i t:Nat) (v:Value),ts[i]?=some t->cvs[i]?=some v->tmps[t]?=some v) ->
   cL E (rA E.P f tmps ps.toList assign body cvs cs) (vs++caps) rl fun r L'=>r = .tup []/\L'=LL)
  (hw:ag (hasL rl) (vs++caps)=true) (hc:∀l cells,lget rl l=some (some cells)->ag (hasL rl) cells=true)
  (hkeys:∀l,lget rl l≠none->lget LL l≠none) (hnew:∀l y,lget LL l=some y->lget rl l=none->∃p∈wl,p.1=l)
  (heq:∀(L:Lb) (l:Nat),(∀l y,lget rl l=some y->lget L l=some y)->lget (lupd L wl) l=lget (LL++L) l)
  (hno:Kst rl) (h2:∀l y,lget rl l=some y->lget L l=some y) (h3:∀p∈wl,lget rl p.1≠none\/lget L p.1=none) (hQ:Q .normal al (lupd L wl)):AW E K n (.rangeFunc g ps assign body) Q al L:=by
 intro A w σ a r t
 have hgv:=aQ r (fun _ _ h=>h) hg
 obtain ⟨sv1,sv2⟩:=BB r hal hlen
 generalize hge:a.eval g=gv at hgv
 cases hgv with
 | fn f' cs hlc hcv=>
  have hT:=cL.use (T:=rA E.P f a.tmps ps.toList assign body (fL a ts) cs) vh hG
   (h a.tmps (fL a ts) cs t (by simp [fL,hlen]) hlc.symm sv1) hw hc hkeys hnew heq r hno h2 h3 (cargs:=fL a ts++cs) (by simp [fL,hlen,hlc]) (fun i x v hx hv=>by
    by_cases hi:i<vs.length
    ·rw [List.getElem?_append_left hi] at hx
     rw [List.getElem?_append_left (by simp [fL];omega)] at hv
     exact sv2 i x v hx hv
    ·rw [List.getElem?_append_right (by omega)] at hx
     rw [List.getElem?_append_right (by simp [fL];omega)] at hv
     exact hcv _ x v hx (by simpa [fL,hlen] using hv)) rfl
  rw [hro]
  refine wpIn_rangeFunc fun fn _=>⟨w.heap.size+1,[{ target:=.collected w.heap.size,args:=#[] }],(w.alloc (.deferred (some []))).alloc (.loop (dD fn a.tmps ps.toList assign body w.heap.size)),{ target:=.fn (.func f) cs.toArray,args:=#[.func (.yield (w.heap.size+1)) #[] #[]] },(w.alloc (.deferred (some []))).alloc (.loop (dD fn a.tmps ps.toList assign body w.heap.size)),f,_,_,run_enterLoop_outer _ _ _ _ _,?_,fun _ _=>trivial,?_,fun h=>by simp [Fence.wide] at h,pT ((hT fn).mono ?_)⟩
  ·simp only [resolve,hge]
   simp [go_sem,Deferred.ofValue]
  ·simp [invoke,go_sem,hrun]
  ·rintro e w3 ⟨⟨v3,rfl⟩,hl3,hd3,σ',c,hc',e1,e2,e3⟩
   refine ⟨none,_,run_endLoop hl3 (by simp),al,lupd L wl,σ',hQ,?_,e3.weaken fun _ _=>trivial,t⟩
   have r':=r.grow e2 e3
   refine ⟨r'.tmps,r'.blocks,r'.globals,?_⟩
   have hm:=r'.nodefer
   have hm0:=r.nodefer
   rw [hmb] at hm hm0 ⊢
   obtain ⟨m1,m2,m3⟩:=hm
   obtain ⟨n1,n2,n3⟩:=hm0
   refine ⟨m1,fun d hd=>?_,?_⟩
   ·rcases List.mem_append.1 hd with hd | hd
    ·simp at hd;subst hd
     exact ⟨w.heap.size,rfl,n1,(World.putObj_heap_other (by omega)).trans hd3⟩
    ·exact m2 d hd
   ·refine List.pairwise_cons.2 ⟨fun d hd=>?_,m3⟩
    obtain ⟨r2,f1,f2,f3⟩:=n2 d hd
    rw [f1]
    have:=(Array.getElem?_eq_some_iff.1 f3).1
    intro e;simp at e;omega
def E4 (w:World) (σ:Sig) (av:Nat->Prop) (al:Al) (tmps:Array Value):Prop:=∀t x,lget al t=some x->∃v,tmps[t]?=some v/\VR w σ av x v
theorem yX {w:World} {σ:Sig} {av:Nat->Prop}:∀(ps:List Nat) (xs:List PV) (cxs:List Value) (al:Al) (tmps:Array Value),ps.length=xs.length->cxs.length=xs.length->(∀p∈ps,p<tmps.size) ->
  (∀(i:Nat) (x:PV) (v:Value),xs[i]?=some x->cxs[i]?=some v->VR w σ av x v)->E4 w σ av al tmps ->
  E4 w σ av ((ps.zip xs).foldl (fun al p=>p::al) al) ((ps.zip cxs).foldl (fun tmps p=>tmps.setIfInBounds p.1 p.2) tmps)/\((ps.zip cxs).foldl (fun tmps p=>tmps.setIfInBounds p.1 p.2) tmps).size=tmps.size
 | [],_,_,al,tmps,_,_,_,_,h=>⟨h,rfl⟩
 | p::ps,[],_,_,_,h1,_,_,_,_=>by simp at h1
 | p::ps,x::xs,[],_,_,_,h2,_,_,_=>by simp at h2
 | p::ps,x::xs,c::cxs,al,tmps,h1,h2,h3,h4,h=>by
  simp only [List.zip_cons_cons,List.foldl_cons]
  have:=yX ps xs cxs ((p,x)::al) (tmps.setIfInBounds p c) (by simpa using h1) (by simpa using h2) (fun q hq=>by simpa using h3 q (List.mem_cons_of_mem _ hq)) (fun i y v hy hv=>h4 (i+1) y v (by simpa using hy) (by simpa using hv)) (fun t y hy=>by
   simp only [lget] at hy
   split at hy
   ·rename_i e;subst e;simp at hy;subst hy
    exact ⟨c,by simp [h3 p (by simp)],h4 0 x c rfl rfl⟩
   ·rename_i e
    obtain ⟨v,e1,e2⟩:=h t y hy
    exact ⟨v,by simp [Array.getElem?_setIfInBounds_ne e,e1],e2⟩)
  exact ⟨this.1,by rw [this.2];simp⟩
theorem B0:∀(ts:List Nat) (vs:List PV) (t:Nat) (x:PV),lget (ts.zip vs) t=some x->∃i:Nat,ts[i]?=some t/\vs[i]?=some x
 | [],_,_,_,h=>by simp [lget] at h
 | _::_,[],_,_,h=>by simp [lget] at h
 | s::ts,y::vs,t,x,h=>by
  simp only [List.zip_cons_cons,lget] at h
  split at h
  ·rename_i e;subst e;simp at h;subst h;exact ⟨0,rfl,rfl⟩
  ·obtain ⟨i,h1,h2⟩:=B0 ts vs t x h
   exact ⟨i+1,by simpa using h1,by simpa using h2⟩
def rb (ro:Option Nat) (P:Program) (m:Nat) (ps:List Nat) (assign body:Code) (ts:List Nat) (cvs cxs:List Value) (W:World) (cargs:List Value) (R:Ending->World->Prop):Prop:=
 cargs=cvs++cxs->∀l fn dfr tmps,W.heap[l]?=some (.loop (dD fn tmps ps assign body dfr))->tmps.size=m->(∀(i t:Nat) (v:Value),ts[i]?=some t->cvs[i]?=some v->tmps[t]?=some v) ->
  RoundIn (fen ro) 0 P l fn ((ps.zip cxs).foldl (fun tmps p=>tmps.setIfInBounds p.1 p.2) tmps) assign body W R
theorem u7 {ro:Option Nat} {P:Program} {m:Nat} {ps ts:List Nat} {assign body:Code} {cvs cxs:List Value}:∀(w:World) (cargs:List Value) (R R':Ending->World->Prop),(∀e w',R e w'->R' e w')->rb ro P m ps assign body ts cvs cxs w cargs R->rb ro P m ps assign body ts cvs cxs w cargs R':=
 fun w cargs R R' hr h hc l fn dfr tmps h1 h2 h3=>(h hc l fn dfr tmps h1 h2 h3).mono hr
theorem Fk {ro:Option Nat} {m:Nat} {ps ts:List Nat} {assign body:Code} {vs xs:List PV} {rl rl2:Lb} {cvs cxs:List Value} (hG:GOK E)
  (hA:∀l,AW (E.on (some l) none) (fun l=>lget rl l≠none) m assign (fun e al1 rl1=>e = .normal/\(∀p∈al1,am (hasL rl1) p.2=true)/\(∀l cells,lget rl1 l=some (some cells)->ag (hasL rl1) cells=true)/\hasL rl1 ylab=false /\
   AW (E.on (some l) none) (fun l=>lget rl l≠none) m body (fun e al L=>e = .normal/\L=rl2) al1 rl1) (Aa ps xs ts vs) rl)
  (hc2:∀l cells,lget rl2 l=some (some cells)->ag (hasL rl2) cells=true) (hy2:hasL rl2 ylab=false)
  (hlen:ts.length=vs.length) (hpx:ps.length=xs.length) (hpm:∀p∈ps,p<m) (hcv:cvs.length=vs.length) (hcx:cxs.length=xs.length) :
  cL E (rb ro E.P m ps assign body ts cvs cxs) (vs++xs) rl fun r L'=>r = .bool true/\L'=rl2:=by
 intro A w σ cargs hl hvr hb hg hc l fn dfr tmps hrec hz htm
 subst hc
 have hnl:∀r:Loop,∀c T fr,Obj.loop r ≠ .cells c T fr:=fun _ _ _ _ h=>by cases h
 have hglob:∀{w w':World} {σ:Sig} {av:Nat->Prop} {r:Nat} {o:Obj} (g:Nat) (cells:List PV),lget E.G g=some cells->VR w σ av (.rop cells 0) (.pointer (some ⟨g,0,none⟩))->Turn w w' r->w.heap[r]?=some o->(∀c T fr,o ≠ .cells c T fr)->VR w' σ av (.rop cells 0) (.pointer (some ⟨g,0,none⟩)):=
  fun g cells hgc hv hT ho hnc=>hv.turn (S:=fun _=>false) hT ho hnc (.inr ⟨rfl,by simpa [am] using hG g cells hgc⟩)
 obtain ⟨s1,s2⟩:=yX (w:=w) (σ:=σ) (av:=avo A σ rl) ps xs cxs (ts.zip vs) tmps hpx hcx (fun p hp=>by rw [hz];exact hpm p hp)
  (fun i x v hx hv=>hvr (vs.length+i) x v (by rw [List.getElem?_append_right (by omega)];simpa using hx) (by rw [List.getElem?_append_right (by omega)];rw [hcv];simpa using hv))
  (fun t x hx=>by
   obtain ⟨i,h1,h2⟩:=B0 ts vs t x hx
   have hi:i<vs.length:=(List.getElem?_eq_some_iff.1 h2).1
   have h3:cvs[i]?=some cvs[i]:=List.getElem?_eq_getElem (by omega)
   exact ⟨_,htm i t _ h1 h3,hvr i x _ (by rw [List.getElem?_append_left hi];exact h2) (by rw [List.getElem?_append_left (by omega)];exact h3)⟩)
 refine roundIn_of_wpIn trivial ?_
 refine wpIn_mono (hA l A w σ { tmps:=(ps.zip cxs).foldl (fun tmps p=>tmps.setIfInBounds p.1 p.2) tmps,defers:=[] } ⟨s1,hb,hg,rfl⟩ (s2.trans hz)) ?_
 rintro e a1 w1 ⟨al1',L1',σ1,⟨rfl,ha1,hc1,hy1,hB⟩,r1,g1,t1⟩
 have hlt:l<w.heap.size:=(Array.getElem?_eq_some_iff.1 hrec).1
 have hav0:¬avOf σ rl l:=hb.notAv hrec (hnl _)
 have hl1:=(g1.keep l hlt hav0).2.trans hrec
 have hT1:=Turn.put w1 l (.loop { dD fn tmps ps assign body dfr with state:=.busy })
 refine ⟨_,run_beginRound hl1 rfl,wpIn_mono (hB A _ σ1 a1 ⟨fun t x hx=>?_,r1.blocks.turn (S:=hasL L1') hT1 hl1 (hnl _) (.inr ⟨hy1,hc1⟩),fun g cells hgc=>hglob g cells hgc (r1.globals g cells hgc) hT1 hl1 (hnl _),r1.nodefer⟩ t1) ?_⟩
 ·obtain ⟨v,h1,h2⟩:=r1.tmps t x hx
  exact ⟨v,h1,h2.turn (S:=hasL L1') hT1 hl1 (hnl _) (.inr ⟨hy1,ha1 _ (ai hx)⟩)⟩
 ·rintro e a3 w3 ⟨al3,L3,σ3,⟨rfl,rfl⟩,r3,g3,t3⟩
  have hl2:(w1.putObj l (.loop { dD fn tmps ps assign body dfr with state:=.busy })).heap[l]?=some (.loop { dD fn tmps ps assign body dfr with state:=.busy }):=World.putObj_heap_same (Array.getElem?_eq_some_iff.1 hl1).1
  have hb2:=r1.blocks.turn (S:=hasL L1') hT1 hl1 (hnl _) (.inr ⟨hy1,hc1⟩)
  have hl3:=(g3.keep l (Array.getElem?_eq_some_iff.1 hl2).1 (hb2.notAv hl2 (hnl _))).2.trans hl2
  have hT3:=Turn.put w3 l (.loop { dD fn tmps ps assign body dfr with state:=.ready })
  refine ⟨.bool true,_,run_endRound none hl3,_,.bool true,L3,σ3,rfl,⟨rfl,rfl⟩,.bool true,r3.blocks.turn (S:=hasL L3) hT3 hl3 (hnl _) (.inr ⟨hy2,hc2⟩),?_⟩
  refine ⟨?_,fun k y hk hy=>g3.sig k y hk (g1.sig k y hk hy),fun β hβ hn=>?_,?_,?_⟩
  ·have h1:=g1.size
   have h3:=g3.size
   rw [hT1.size] at h3
   rw [World.putObj_size];omega
  ·obtain ⟨k1,k2⟩:=g1.keep β hβ hn
   by_cases e:β=l
   ·subst e
    exact ⟨r3.blocks.notAv hl3 (hnl _),(World.putObj_heap_same (Array.getElem?_eq_some_iff.1 hl3).1).trans hrec.symm⟩
   ·obtain ⟨k3,k4⟩:=g3.keep β (by rw [hT1.size];exact Nat.lt_of_lt_of_le hβ g1.size) k1
    exact ⟨k3,(World.putObj_heap_other e).trans (k4.trans ((hT1.other β e).trans k2))⟩
  ·exact ⟨g3.out.1.trans g1.out.1,g3.out.2.1.trans g1.out.2.1,g3.out.2.2.trans g1.out.2.2⟩
  ·intro hk q β add hf
   obtain ⟨k1,k2⟩:=g1.fam hk q β add hf
   have hne:β≠l:=fun e=>by subst e;obtain ⟨c,T,fr,hce⟩:=hb.fr.cel q β add hf;rw [hrec] at hce;cases hce
   obtain ⟨k3,k4⟩:=g3.fam hk q β add k1
   exact ⟨k3,(World.putObj_heap_other hne).trans (k4.trans ((hT1.other β hne).trans k2))⟩
theorem Gd {ops:Array Oper} {rest:List Oper} {d:Option Tmp} {ty:TypeId} {pos:String} {after:Array Edge} {g:Option (Nat×Bool)} {fo:Operand} {args:Array Operand} {tys:Array TypeId} {m:Nat} {ps ts:List Nat} {assign body:Code} {vs xs:List PV} {rl LL wl:Lb} (hG:GOK E)
  (hf:xev E.G al fo=some (.yld m ps assign body ts vs)) (hx:xevs E.G al args.toList=some xs) (hpx:ps.length=xs.length)
  (h:∀cvs cxs,cvs.length=vs.length->cxs.length=xs.length->cL E (rb E.ro E.P m ps assign body ts cvs cxs) (vs++xs) rl fun r L'=>r = .bool true/\L'=LL)
  (hw:ag (hasL rl) (vs++xs)=true) (hc:∀l cells,lget rl l=some (some cells)->ag (hasL rl) cells=true)
  (hkeys:∀l,lget rl l≠none->lget LL l≠none) (hnew:∀l y,lget LL l=some y->lget rl l=none->∃p∈wl,p.1=l)
  (heq:∀(L:Lb) (l:Nat),(∀l y,lget rl l=some y->lget L l=some y)->lget (lupd L wl) l=lget (LL++L) l)
  (hno:Kst rl) (h2:∀l y,lget rl l=some y->lget L l=some y) (h3:∀p∈wl,lget rl p.1≠none\/lget L p.1=none)
  (hd:∀t,d=some t->t<n) (hg:ge ops al ⟨d,.call ⟨.value fo,args,tys⟩,ty,pos,after,g⟩=some true)
  (k:AWl E K n ops rest Q (oset d (.bool true) al) (lupd L wl)):AWl E K n ops (⟨d,.call ⟨.value fo,args,tys⟩,ty,pos,after,g⟩::rest) Q al L:=by
 intro A w σ a r t
 have hv:=aQ r (fun _ _ h=>h) hf
 obtain ⟨e1,e2⟩:=p7 r (fun _ _ h=>h) _ _ hx
 simp only [wpListIn]
 rw [if_pos (km r hg)]
 refine ⟨fun _ _=>trivial,?_⟩
 rw [Oper.semAt_eq _ _ _ (fun c h=>by cases h)]
 generalize hge:a.eval fo=fv at hv
 cases hv with
 | yld l fn dfr tmps cs hn hl hz hcl ht hvs=>
  have hrun:(execOp a.eval ⟨d,.call ⟨.value fo,args,tys⟩,ty,pos,after,g⟩).run E.P w = .ok (.round l fn ((ps.zip (args.toList.map a.eval)).foldl (fun tmps p=>tmps.setIfInBounds p.1 p.2) tmps) assign body) w:=by
   have hy:=run_yield (P:=E.P) (args:=args.map a.eval) hl (by have:=e1;simp at this;simp;rw [hpx];exact this.symm)
   have hz2:(ps.toArray.zip (args.map a.eval)).foldl (fun tmps x=>match x with | (t,a)=>tmps.setIfInBounds t a) tmps=(ps.zip (args.toList.map a.eval)).foldl (fun tmps p=>tmps.setIfInBounds p.1 p.2) tmps:=by
    rw [<-Array.foldl_toList]
    simp
   rw [hz2] at hy
   simp [execOp,resolve,Deferred.ofValue,hge,invoke,hy]
  rw [hrun,Oper.uponIn_round]
  refine ⟨fun h=>by simp [Fence.wide] at h,?_⟩
  have hT:=cL.use (T:=rb E.ro E.P m ps assign body ts cs (args.toList.map a.eval)) u7 hG (h cs (args.toList.map a.eval) hcl.symm e1.symm) hw hc hkeys hnew heq r hno h2 h3 (cargs:=cs++args.toList.map a.eval) (by have:=e1;simp at this;simp [hcl,this]) (fun i x v hx hv=>by
    by_cases hi:i<vs.length
    ·rw [List.getElem?_append_left hi] at hx
     rw [List.getElem?_append_left (by omega)] at hv
     exact hvs i x v hx hv
    ·rw [List.getElem?_append_right (by omega)] at hx
     rw [List.getElem?_append_right (by omega)] at hv
     exact e2 _ x v hx (by rw [<-hcl] at hv;exact hv)) rfl l fn dfr tmps hl hz ht
  refine hT.mono ?_
  rintro e w' ⟨σ',c,rfl,f1,f2,f3⟩
  have r':=(r.grow f2 f3).put (d:=d) (fun u hu=>by rw [t];exact hd u hu) f1
  exact cF (fun e a w h=>Post.trans (f3.weaken fun _ _=>trivial) h) _ _ _ (k A w' σ' _ r' (by rw [kA];exact t))
end
end Go.SH
