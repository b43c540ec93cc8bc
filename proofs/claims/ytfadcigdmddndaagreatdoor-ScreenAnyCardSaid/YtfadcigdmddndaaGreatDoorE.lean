/- Part 5 of: ScreenAny: any screen, any change, as the document. -/
import Derived.Test.YtfadcigdmddndaaGreatDoorD
set_option linter.unusedVariables false
set_option linter.unusedSimpArgs false
noncomputable section
namespace Go.SH
open IntKind (i64 u64 i32 u8)
def ed (g:aA) (x:Int×Int):Bool:=decide (0<=x.1)&&(decide (x.1<g.length)&&(decide (0<=x.2)&&decide (x.2<cU g)))
theorem G2 {g:aA} {b:List ak} (hg:g[0]?=some b) (x:Int×Int):ga x g=some (ed g x):=by
 have hl:0<g.length:=(List.getElem?_eq_some_iff.1 hg).1
 unfold ga ed
 rw [lS hg]
 rw [show decide (x.1>=0)=decide (0<=x.1) from rfl,show decide (x.2>=0)=decide (0<=x.2) from rfl]
 have e:(req (0<=(0:Int)/\(0:Int)<((g.length:Nat):Int)) ((g[(0:Int).toNat]?).bind fun x1=>some (decide (x.2<(x1.length:Int)))):Option Bool)=some (decide (x.2<(b.length:Int))):=by
  rw [ac (by omega),show (0:Int).toNat=0 from rfl,hg];rfl
 rw [e]
 cases decide (0<=x.1) <;> cases decide (x.1<((g.length:Nat):Int)) <;> cases decide (0<=x.2) <;> cases decide (x.2<(b.length:Int)) <;> rfl
def hZ (w:Nat) (f t:Int×Int) (p:PenT) (r:Nat) (l:List ak):List ak:=
 if f.1<=(r:Int)/\(r:Int)<=t.1 then gc l (if (r:Int)=f.1 then f.2 else 0) (if (r:Int)=t.1 then t.2+1 else (w:Int)) p else l
def j4 (g:aA) (f t:Int×Int) (p:PenT):aA:=bif ed g f&&ed g t then g.mapIdx (hZ (cU g) f t p) else g
theorem rY {g:aA} {R C:Nat} {f t:Int×Int} {p:PenT} (hg:gok g R C) (hp:aO p=true):gok (j4 g f t p) R C:=by
 unfold j4
 cases (ed g f&&ed g t) with
 | false=>exact hg
 | true=>
  refine Hr (by simp [hg.1]) fun i l hi=>?_
  simp only [cond_true,List.getElem?_mapIdx,Option.map_eq_some_iff] at hi
  obtain ⟨x,hx,rfl⟩:=hi
  have h:=hg.2 x (List.mem_of_getElem? hx)
  unfold hZ
  split
  ·obtain ⟨k1,k2⟩:=rX (f:=if (i:Int)=f.1 then f.2 else 0) (t:=if (i:Int)=t.1 then t.2+1 else ((cU g:Nat):Int)) h.2 hp
   exact ⟨k2.trans h.1,k1⟩
  ·exact h
theorem Gd {g:aA} {R C:Nat} {f t:Int×Int} {p:PenT} (hg:gok g R C) (hs:szR R C) (hp:aO p=true):eM f t p g=some (j4 g f t p):=by
 have hm:=tS hg hs
 have hlen:g.length=R:=hg.1
 have hsz:=hs
 unfold szR at hsz
 obtain ⟨b,hb1,hb2,hb3⟩:=fR hg (i:=0) (by omega)
 unfold eM j4
 rw [nz,mG (by omega),hm]
 simp only [dv,hp,Option.bind_some,Bool.not_true,cond_false,nz,aJ]
 rw [vQ (by omega) (fun l hl=>by have:=(hg.2 l hl).1;omega)]
 simp only [Option.bind_some,G2 hb1]
 have eC:((bif !ed g f then some true else bif !ed g t then some true else some false:Option Bool))=some (!(ed g f&&ed g t)):=by
  cases ed g f <;> cases ed g t <;> rfl
 rw [eC]
 simp only [Option.bind_some]
 cases hpl:(ed g f&&ed g t) with
 | false=>simp only [Bool.not_false,cond_true,cond_false]
 | true=>
  simp only [Bool.not_true,cond_true,cond_false]
  simp only [ed,Bool.and_eq_true,decide_eq_true_eq] at hpl
  obtain ⟨⟨f1,f2,f3,f4⟩,t1,t2,t3,t4⟩:=hpl
  have hw:=jy hg hs
  rw [hw] at f4 t4 ⊢
  obtain ⟨fr,fc⟩:=f
  obtain ⟨tr,tc⟩:=t
  simp only at f1 f2 f3 f4 t1 t2 t3 t4 ⊢
  obtain ⟨F,rfl⟩:∃k:Nat,fr=k:=⟨fr.toNat,by omega⟩
  obtain ⟨T,rfl⟩:∃k:Nat,tr=k:=⟨tr.toNat,by omega⟩
  have hin:∀(k:Nat) (x:aA),k<T+1->x.length=R->(∀i:Nat,0+k<=i->x[i]?=g[i]?)->bC ((T:Int),tc) g ((F:Int),fc) g p ((k:Int),x)=some (.inr (((k+1:Nat):Int),match (g[k]?).map (fun l=>gc l (if (k:Int)=(F:Int) then fc else 0) (if (k:Int)=(T:Int) then tc+1 else (C:Int)) p) with | some v=>x.set (k+0) v | none=>x)):=fun k x hk hx hold=>by
   obtain ⟨l,hl1,hl2,hl3⟩:=fR hg (i:=k) (by omega)
   have hxk:x[k]?=some l:=by rw [hold k (by omega)];exact hl1
   unfold bC
   simp only
   rw [ao (by omega:(k:Int)<=(T:Int))]
   simp only [Option.bind_some,cond_true,Int.toNat_natCast]
   rw [ac (by omega),show (0:Int).toNat=0 from rfl,hb1]
   simp only [Option.bind_some,hb2]
   have ea:((bif (k:Int)==(F:Int) then some true else some false:Option Bool).bind fun x27=>bif x27 then some fc else some 0)=some (if (k:Int)=(F:Int) then fc else 0):=by
    by_cases e:(k:Int)=(F:Int)
    ·simp [e]
    ·have:((k:Int)==(F:Int))=false:=by simpa using e
     rw [this,if_neg e];rfl
   have eb:((bif (k:Int)==(T:Int) then some true else some false:Option Bool).bind fun x30=>bif x30 then some (i64.wrap (tc+1)) else some ((C:Nat):Int))=some (if (k:Int)=(T:Int) then tc+1 else (C:Int)):=by
    by_cases e:(k:Int)=(T:Int)
    ·rw [if_pos e,e]
     simp only [beq_self_eq_true,cond_true,Option.bind_some]
     rw [ag (by omega)]
    ·have:((k:Int)==(T:Int))=false:=by simpa using e
     rw [this,if_neg e];rfl
   rw [ea,eb]
   simp only [Option.bind_some]
   rw [ac (by omega),hxk]
   simp only [Option.bind_some]
   rw [C4 hl3 hp]
   simp only [Option.bind_some]
   rw [ac (by omega)]
   rw [hl1,ag (by omega)]
   simp only [Option.map_some]
   rfl
  have hend:∀x:aA,bC ((T:Int),tc) g ((F:Int),fc) g p (((T+1:Nat):Int),x)=some (.inl x):=fun x=>by
   unfold bC
   simp only
   rw [au (by omega:¬((T+1:Nat):Int)<=(T:Int))];rfl
  by_cases hFT:F<=T+1
  ·obtain ⟨g',h1,h2,h3⟩:=nP (step:=bC ((T:Int),tc) g ((F:Int),fc) g p) (n:=T+1) (off:=0) (N:=R) (u:=fun k=>(g[k]?).map (fun l=>gc l (if (k:Int)=(F:Int) then fc else 0) (if (k:Int)=(T:Int) then tc+1 else (C:Int)) p)) (g0:=g) (fun k x hk hx hold=>(hin k x hk hx hold).trans (by cases g[k]? <;> rfl)) hend (T+1-F) F g (by omega) hlen (fun _ _=>rfl)
   rw [h1]
   simp only [Option.bind_some]
   have:g'=g.mapIdx (hZ C ((F:Int),fc) ((T:Int),tc) p):=by
    refine List.ext_getElem? fun i=>?_
    rw [List.getElem?_mapIdx]
    by_cases hi:i<R
    ·rw [h3 i hi]
     obtain ⟨l,hl1,_,_⟩:=fR hg hi
     by_cases hc:0+F<=i/\i<0+(T+1)
     ·rw [if_pos hc,show i-0=i from rfl,hl1]
      have:hZ C ((F:Int),fc) ((T:Int),tc) p i l=gc l (if (i:Int)=(F:Int) then fc else 0) (if (i:Int)=(T:Int) then tc+1 else (C:Int)) p:=by
       unfold hZ
       rw [if_pos (by simp only;omega)]
      simp only [Option.map_some,this]
     ·rw [if_neg hc,hl1]
      have:hZ C ((F:Int),fc) ((T:Int),tc) p i l=l:=by
       unfold hZ
       rw [if_neg (by simp only;omega)]
      simp [this]
    ·rw [List.getElem?_eq_none (by omega),List.getElem?_eq_none (by omega)];rfl
   rw [this,ac (by simp)]
  ·rw [aj]
   have:bC ((T:Int),tc) g ((F:Int),fc) g p ((F:Int),g)=some (.inl g):=by
    unfold bC
    simp only
    rw [au (by omega:¬(F:Int)<=(T:Int))];rfl
   rw [this]
   simp only [Option.bind_some]
   have:g.mapIdx (hZ C ((F:Int),fc) ((T:Int),tc) p)=g:=by
    refine List.ext_getElem? fun i=>?_
    rw [List.getElem?_mapIdx]
    cases g[i]? with
    | none=>rfl
    | some l=>
     simp only [Option.map_some]
     unfold hZ
     rw [if_neg (by simp only;omega)]
   rw [this];exact aJ
def fitG (g:aA) (R C gone:Nat):aA:=(List.range R).map fun i=>match g[gone+i]? with
 | some l=>fitM l C
 | none=>aT C (0,0,0)
theorem p9:gb=eO:=rfl
theorem CC {g:aA} {R C R' C' gone:Nat} (hg:gok g R C) (hs:szR R' C'):gok (fitG g R' C' gone) R' C':=by
 unfold szR at hs
 refine Hr (by simp [fitG]) fun i l hi=>?_
 unfold fitG at hi
 rw [List.getElem?_map] at hi
 obtain ⟨k,hk,rfl⟩:=Option.map_eq_some_iff.1 hi
 cases hx:g[gone+k]? with
 | none=>exact ⟨bw _ _,bh.2 ⟨by rw [bw];omega,jl (by decide) _⟩⟩
 | some x=>
  have h:=hg.2 x (List.mem_of_getElem? hx)
  obtain ⟨k1,k2⟩:=Hw (n:=C') h.2 (by omega)
  exact ⟨k2,k1⟩
theorem Fl {g:aA} {R C R' C' gone:Nat} (hg:gok g R C) (hs:szR R C) (hs':szR R' C') (hgo:gone<=R):iu (R':Int) (C':Int) (gone:Int) g=some (fitG g R' C' gone):=by
 have hm:=tS hg hs
 have hlen:g.length=R:=hg.1
 have hsz:=hs
 have hsz':=hs'
 unfold szR at hsz hsz'
 unfold iu
 rw [nz,mG (by omega),hm]
 simp only [lJ,Option.bind_some,Bool.not_true,cond_false]
 rw [ao (by omega:1<=(R':Int)/\(R':Int)<=200),ao (by omega:1<=(C':Int)/\(C':Int)<=200),au (by omega:¬(gone:Int)<0),au (by omega:¬(gone:Int)>((g.length:Nat):Int))]
 simp only [Bool.not_true,cond_false,Option.bind_some]
 rw [p9,gU ⟨hsz'.1,hsz'.2.1⟩ ⟨hsz'.2.2.1,hsz'.2.2.2⟩ (by decide)]
 simp only [Option.bind_some]
 rw [ac (by omega)]
 have hbl:(dE R' C' (0,0,0)).length=R':=by simp [dE]
 obtain ⟨g',h1,h2,h3⟩:=nP (step:=eK g (gone:Int) (R':Int) (C':Int) (dE R' C' (0,0,0))) (n:=R-gone) (off:=0) (N:=R') (u:=fun k=>if k<R' then (g[gone+k]?).map (fun l=>fitM l C') else none) (g0:=dE R' C' (0,0,0))
  (fun k x hk hx hold=>by
   obtain ⟨l,hl1,hl2,hl3⟩:=fR hg (i:=gone+k) (by omega)
   unfold eK
   simp only [Int.toNat_natCast]
   rw [ao (by omega:(k:Int)<((g.length-gone:Nat):Int))]
   simp only [Option.bind_some,cond_true]
   rw [ac (by omega),show k+gone=gone+k from by omega,hl1]
   simp only [Option.bind_some]
   by_cases h:k<R'
   ·rw [ao (by omega:(k:Int)<(R':Int)),if_pos h]
    simp only [cond_true,Option.bind_some,Option.map_some]
    rw [K1 hl3 (by omega)]
    simp only [Option.bind_some]
    rw [ac (by omega),List.getElem?_eq_getElem (by omega:k<x.length)]
    simp only [Option.bind_some]
    rw [ag (by omega)];rfl
   ·rw [au (by omega:¬(k:Int)<(R':Int)),if_neg h]
    simp only [cond_false,Option.bind_some]
    rw [ag (by omega)];rfl)
  (fun x=>by
   unfold eK
   simp only [Int.toNat_natCast]
   rw [au (by omega:¬((R-gone:Nat):Int)<((g.length-gone:Nat):Int))];rfl) (R-gone) 0 (dE R' C' (0,0,0)) (by omega) hbl (fun _ _=>rfl)
 have e:ap (eK g (gone:Int) (R':Int) (C':Int) (dE R' C' (0,0,0))) (0,dE R' C' (0,0,0))=some g':=h1
 rw [e]
 simp only [Option.bind_some]
 have:g'=fitG g R' C' gone:=by
  refine List.ext_getElem? fun i=>?_
  unfold fitG
  rw [List.getElem?_map]
  by_cases hi:i<R'
  ·rw [h3 i hi,List.getElem?_range hi]
   simp only [Option.map_some]
   by_cases hc:0+0<=i/\i<0+(R-gone)
   ·rw [if_pos hc,show i-0=i from rfl,if_pos hi]
    obtain ⟨l,hl1,hl2,hl3⟩:=fR hg (i:=gone+i) (by omega)
    rw [hl1];rfl
   ·rw [if_neg hc,List.getElem?_eq_none (by omega:g.length<=gone+i)]
    simp only [dE]
    rw [List.getElem?_replicate,if_pos hi]
  ·rw [List.getElem?_eq_none (by omega),List.getElem?_eq_none (by simp;omega)];rfl
 rw [this,ac (by rw [hbl];simp [fitG])]
end Go.SH
namespace Go.SH
open IntKind (i64 u64 i32 u8)
theorem bt (c:Bool):(bif c then some true else some false:Option Bool)=some c:=by cases c <;> rfl
theorem bt2 (a b:Bool):(bif a then some b else some false:Option Bool)=some (a&&b):=by cases a <;> cases b <;> rfl
def grp (n:Int):Bool×Int:=
 if 30<=n/\n<40 then (true,30) else if 40<=n/\n<50 then (true,40) else if 90<=n/\n<98 then (true,30) else if 100<=n/\n<108 then (true,40) else (false,0)
theorem Ax (n:Int):nA n=some ((grp n).2,(grp n).1):=by
 have key:nA n=bif decide (30<=n)&&decide (n<50) then some (i64.wrap ((i64.wrap (Int.tdiv n 10))*10),true) else
   bif (decide (90<=n)&&decide (n<98))||(decide (100<=n)&&decide (n<108)) then some (i64.wrap ((i64.wrap ((i64.wrap (Int.tdiv n 10))*10))-60),true) else some (0,false):=by
  unfold nA
  simp only [ge_iff_le]
  cases decide (30<=n) <;> cases decide (n<50) <;> cases decide (90<=n) <;> cases decide (n<98) <;> cases decide (100<=n) <;> cases decide (n<108) <;> rfl
 rw [key]
 unfold grp
 by_cases h1:30<=n/\n<50
 ·rw [ao h1.1,ao h1.2,Int.tdiv_eq_ediv_of_nonneg (by omega)]
  simp only [Bool.and_self,cond_true,w64]
  by_cases h2:n<40
  ·rw [if_pos ⟨h1.1,h2⟩];congr 2;omega
  ·rw [if_neg (by omega),if_pos (by omega)];congr 2;omega
 ·have e:(decide (30<=n)&&decide (n<50))=false:=by simp;omega
  rw [e,if_neg (by omega),if_neg (by omega)]
  simp only [cond_false]
  by_cases h2:90<=n/\n<98
  ·rw [ao h2.1,ao h2.2,if_pos h2,Int.tdiv_eq_ediv_of_nonneg (by omega)]
   simp only [Bool.and_self,Bool.true_or,cond_true,w64]
   congr 2;omega
  ·rw [if_neg h2]
   have e:(decide (90<=n)&&decide (n<98))=false:=by simp;omega
   rw [e]
   by_cases h3:100<=n/\n<108
   ·rw [ao h3.1,ao h3.2,if_pos h3,Int.tdiv_eq_ediv_of_nonneg (by omega)]
    simp only [Bool.and_self,Bool.or_true,cond_true,w64]
    congr 2;omega
   ·rw [if_neg h3]
    have e:(decide (100<=n)&&decide (n<108))=false:=by simp;omega
    rw [e];rfl
def bitv:Nat->Int
 | 0=>1 | 1=>2 | 2=>4 | 3=>8 | 4=>16 | 6=>32 | 7=>64 | 8=>128 | _=>0
theorem yJ:∀i:_root_.Fin 9,kp (i.val:Int)=some (bitv i.val):=by decide +kernel
theorem sU (i:Nat) (h:i<=8):kp (i:Int)=some (bitv i):=yJ ⟨i,by omega⟩
def isB (x:Int):Bool:=decide (0<=x)&&decide (x<=255)
theorem Bg {l:List Int} {i:Nat} {x:Int} (h:l[i]?=some x) (hb:l.length<9223372036854775807):du l (i:Int)=some (bif isB x then .inr ((i+1:Nat):Int) else .inl (.inl ())):=by
 have hlt:i<l.length:=(List.getElem?_eq_some_iff.1 h).1
 have e1:decide ((i:Int)<(l.length:Int))=true:=by simp;omega
 have e2:i64.wrap ((i:Int)+1)=((i+1:Nat):Int):=by rw [w64];omega
 simp only [du,e1,cond_true,aP,h,Option.bind_some,e2,isB]
 by_cases h1:x<0
 ·have:¬0<=x:=by omega
  simp [h1,this]
 ·by_cases h2:x>255
  ·have:¬x<=255:=by omega
   simp [h1,h2,this]
  ·have h3:x<=255:=by omega
   have h4:0<=x:=by omega
   simp [h1,h2,h3,h4]
theorem CN (l:List Int):du l (l.length:Int)=some (.inl (.inr ())):=by simp [du]
theorem Bh (l:List Int):∀(m i:Nat),l.length-i=m->i<=l.length->l.length<9223372036854775807->ap (du l) (i:Int)=some (bif (l.drop i).all isB then .inr () else .inl ()):=by
 intro m
 induction m with
 | zero=>
  intro i hm hi hb
  have:i=l.length:=by omega
  subst this
  rw [aj,CN]
  simp
 | succ m ih=>
  intro i hm hi hb
  have hlt:i<l.length:=by omega
  have ih':=ih (i+1) (by omega) (by omega) hb
  rw [aj,Bg (List.getElem?_eq_getElem hlt) hb,List.drop_eq_getElem_cons hlt,List.all_cons]
  cases isB l[i] with
  | false=>rfl
  | true=>exact ih'
theorem ja (l:List Int) (hb:l.length<9223372036854775807):ee l=some (l.all isB):=by
 unfold ee
 have:=Bh l _ 0 rfl (Nat.zero_le _) hb
 simp only [Int.natCast_zero] at this
 rw [this]
 simp only [Option.bind_some,List.drop_zero]
 cases l.all isB <;> rfl
def colS:List Int->Int×Int
 | x::y::r=>bif decide (x=5)&&isB y then (2,1+y) else match r with
  | z::w::_=>bif decide (x=2)&&(isB y&&isB z&&isB w) then (4,17+36*(6*y / 256)+6*(6*z / 256)+6*w / 256) else (0,0)
  | _=>(0,0)
 | _=>(0,0)
theorem lA {x:Int} (h:isB x=true):0<=x/\x<=255:=by simpa [isB] using h
theorem Jh {y z w:Int} (hy:isB y=true) (hz:isB z=true) (hw:isB w=true) :
  i64.wrap ((i64.wrap ((i64.wrap (17+(i64.wrap (36*(i64.wrap (Int.tdiv (i64.wrap (6*y)) 256))))))+(i64.wrap (6*(i64.wrap (Int.tdiv (i64.wrap (6*z)) 256))))))+(i64.wrap (Int.tdiv (i64.wrap (6*w)) 256))) =
   17+36*(6*y / 256)+6*(6*z / 256)+6*w / 256:=by
 have h1:=lA hy;have h2:=lA hz;have h3:=lA hw
 have e1:∀x:Int,0<=x->x<=255->i64.wrap (Int.tdiv (i64.wrap (6*x)) 256)=6*x / 256:=by
  intro x a b
  have:i64.wrap (6*x)=6*x:=by rw [w64];omega
  rw [this,Int.tdiv_eq_ediv_of_nonneg (by omega),w64];omega
 rw [e1 y h1.1 h1.2,e1 z h2.1 h2.2,e1 w h3.1 h3.2]
 have a1:0<=6*y / 256/\6*y / 256<=5:=by omega
 have a2:0<=6*z / 256/\6*z / 256<=5:=by omega
 have a3:0<=6*w / 256/\6*w / 256<=5:=by omega
 simp only [w64]
 omega
theorem yI (l:List Int) (hb:l.length<9223372036854775807):oE l=some ((colS l).2,(colS l).1):=by
 have g0:∀(k:Int) (n:Nat),k=n->getI l k=l[n]?:=fun k n h=>by subst h;exact aP l n
 unfold oE
 rw [g0 0 0 rfl,g0 1 1 rfl,g0 2 2 rfl,g0 3 3 rfl]
 match l,hb with
 | [],_=>rfl
 | [x],_=>rfl
 | [x,y],hb=>
  have p1:ee [y]=some (isB y):=by rw [ja [y] (by simp)];simp
  simp only [colS,List.length_cons,List.length_nil]
  by_cases hx:x=5
  ·subst hx
   cases hy:isB y with
   | false=>simp [hy,p1]
   | true=>
    have:=lA hy
    have e:i64.wrap (1+y)=1+y:=by rw [w64];omega
    simp [hy,e,p1]
  ·have hx':(x==5)=false:=by simpa using hx
   simp [hx,hx']
 | [x,y,z],hb=>
  have p1:ee [y]=some (isB y):=by rw [ja [y] (by simp)];simp
  simp only [colS,List.length_cons,List.length_nil]
  by_cases hx:x=5
  ·subst hx
   cases hy:isB y with
   | false=>simp [hy,p1]
   | true=>
    have:=lA hy
    have e:i64.wrap (1+y)=1+y:=by rw [w64];omega
    simp [hy,e,p1]
  ·have hx':(x==5)=false:=by simpa using hx
   simp [hx,hx']
 | x::y::z::w::r,hb=>
  have hl:decide (((x::y::z::w::r).length:Int)>=2)=true:=by simp;omega
  have hl4:decide (((x::y::z::w::r).length:Int)>=4)=true:=by simp;omega
  have hs:sub (x::y::z::w::r) 1 4=[y,z,w]:=rfl
  have hq:(0<=(1:Int)/\(1:Int)<=(4:Int)/\(4:Int)<=(((x::y::z::w::r).length:Nat):Int)):=by simp;omega
  have p1:ee [y]=some (isB y):=by rw [ja [y] (by simp)];simp
  have p3:ee [y,z,w]=some (isB y&&isB z&&isB w):=by rw [ja [y,z,w] (by simp)];simp [Bool.and_assoc]
  rw [hl,hl4,ac hq,hs,p3]
  simp only [colS,cond_true,p1,List.getElem?_cons_zero,List.getElem?_cons_succ,Option.bind_some,List.all_cons,List.all_nil,Bool.and_true]
  by_cases hx:x=5
  ·subst hx
   cases hy:isB y with
   | false=>simp
   | true=>
    have:=lA hy
    have e:i64.wrap (1+y)=1+y:=by rw [w64];omega
    simp [e]
  ·by_cases hx2:x=2
   ·subst hx2
    cases hy:isB y <;> cases hz:isB z <;> cases hw:isB w <;> first | (simp;done) | skip
    simp [Jh hy hz hw]
   ·have hx':(x==5)=false:=by simpa using hx
    have hx2':(x==2)=false:=by simpa using hx2
    simp [hx,hx2,hx',hx2']
abbrev T3:=Int×Int×Int
def jr (base c:Int) (p:T3):T3:=bif base==30 then (p.1,c,p.2.2) else (p.1,p.2.1,c)
def act (p:T3) (n:Int) (rest:List Int):Option (T3×Int):=
 bif n==0 then some ((0,0,0),0)
 else bif decide (1<=n)&&decide (n<=9) then some ((az .or .i64 p.1 (bitv (n-1).toNat),p.2.1,p.2.2),0)
 else bif n==22 then some ((az .andNot .i64 p.1 3,p.2.1,p.2.2),0)
 else bif decide (23<=n)&&decide (n<=29) then some ((az .andNot .i64 p.1 (bitv (n-21).toNat),p.2.1,p.2.2),0)
 else bif (grp n).1&&(n==(grp n).2+8) then (bif (colS rest).1==0 then none else some (jr (grp n).2 (colS rest).2 p,(colS rest).1))
 else bif (grp n).1&&(n==(grp n).2+9) then some (jr (grp n).2 0 p,0)
 else bif (grp n).1&&decide (n<90) then some (jr (grp n).2 (n-(grp n).2+1) p,0)
 else bif (grp n).1 then some (jr (grp n).2 (n-(grp n).2-60+9) p,0)
 else some (p,0)
theorem G4 (base c:Int) (p:T3):da base c p.2.1 p.2.2=some ((jr base c p).2.1,(jr base c p).2.2):=by
 unfold da jr
 cases base==30 <;> rfl
theorem uJ (base c b f k:Int):(b,(jr base c (b,f,k)).2.1,(jr base c (b,f,k)).2.2)=jr base c (b,f,k):=by unfold jr;cases base==30 <;> rfl
theorem JY (n:Int):((grp n).2=0\/(grp n).2=30\/(grp n).2=40)/\((grp n).1=true->30<=n/\n<108):=by
 unfold grp;split
 ·simp;omega
 ·split
  ·simp;omega
  ·split
   ·simp;omega
   ·split
    ·simp;omega
    ·simp
theorem Ey {α:Type} (l:List α) (a:Nat):sub l a l.length=l.drop a:=by
 unfold sub;rw [List.take_of_length_le (by simp)]
theorem Ec {l:List Int} {i:Nat} {n:Int} (p:T3) (h:l[i]?=some n) (hb:l.length<4611686018427387904):fe l ((i:Int),p.1,p.2.1,p.2.2) =
  some (match act p n (l.drop (i+1)) with | none=>.inl (.inl (p.1,p.2.1,p.2.2,p)) | some (q,t)=>.inr (i64.wrap (i64.wrap (i+t)+1),q)):=by
 obtain ⟨b,f,k⟩:=p
 have hlt:i<l.length:=(List.getElem?_eq_some_iff.1 h).1
 have e1:decide ((i:Int)<(l.length:Int))=true:=by simp;omega
 have e2:i64.wrap ((i:Int)+1)=((i+1:Nat):Int):=by rw [w64];omega
 have e0:i64.wrap ((i:Int)+0)=(i:Int):=by rw [w64];omega
 obtain ⟨g1,g2⟩:=JY n
 have e8:i64.wrap ((grp n).2+8)=(grp n).2+8:=by rw [w64];omega
 have e9:i64.wrap ((grp n).2+9)=(grp n).2+9:=by rw [w64];omega
 have hc:=yI (l.drop (i+1)) (by simp;omega)
 have hq:0<=((i+1:Nat):Int)/\((i+1:Nat):Int)<=((l.length:Nat):Int)/\((l.length:Nat):Int)<=((l.length:Nat):Int):=by omega
 have ht:((i+1:Nat):Int).toNat=i+1:=rfl
 have pe:∀(base c f' k':Int),da base c f' k'=some ((jr base c (b,f',k')).2.1,(jr base c (b,f',k')).2.2):=fun base c f' k'=>G4 base c (b,f',k')
 unfold fe
 simp only [e1,cond_true,aP,h,Option.bind_some,Ax,e2,e8,e9,ht,Ey,hc,bt,bt2,Bool.and_true,pe,ge_iff_le]
 rw [ac hq]
 have e2':i64.wrap ((i:Int)+1)=(i:Int)+1:=by rw [w64];omega
 have e0':i64.wrap (i:Int)=(i:Int):=by rw [w64];omega
 clear e2 e0 e1 hq ht hc pe
 unfold act
 by_cases h0:n=0
 ·subst h0;simp [e0',e2']
 have h0':(n==0)=false:=by simpa using h0
 simp only [h0',cond_false]
 by_cases h1:1<=n/\n<=9
 ·have eb:kp (i64.wrap (n-1))=some (bitv (n-1).toNat):=by
   have:i64.wrap (n-1)=((n-1).toNat:Int):=by rw [w64];omega
   rw [this,sU _ (by omega)]
  simp [h1.1,h1.2,eb,e0',e2']
 have h1':∀(i1:Decidable (1<=n)) (i2:Decidable (n<=9)),(@decide (1<=n) i1&&@decide (n<=9) i2)=false:=by intro i1 i2;simp;omega
 simp only [h1',cond_false]
 by_cases h2:n=22
 ·subst h2;simp [e0',e2']
 have h2':(n==22)=false:=by simpa using h2
 simp only [h2',cond_false]
 by_cases h3:23<=n/\n<=29
 ·have eb:kp (i64.wrap (n-21))=some (bitv (n-21).toNat):=by
   have:i64.wrap (n-21)=((n-21).toNat:Int):=by rw [w64];omega
   rw [this,sU _ (by omega)]
  simp [h3.1,h3.2,eb,e0',e2']
 have h3':∀(i1:Decidable (23<=n)) (i2:Decidable (n<=29)),(@decide (23<=n) i1&&@decide (n<=29) i2)=false:=by intro i1 i2;simp;omega
 simp only [h3',cond_false]
 cases hg:(grp n).1 with
 | false=>simp [e0',e2']
 | true=>
  obtain ⟨g3,g4⟩:=g2 hg
  have ea:i64.wrap ((i64.wrap (n-(grp n).2))+1)=n-(grp n).2+1:=by simp only [w64];omega
  have ec:i64.wrap ((i64.wrap ((i64.wrap (n-(grp n).2))-60))+9)=n-(grp n).2-60+9:=by simp only [w64];omega
  simp only [cond_true,Option.bind_some,Bool.true_and,ea,ec]
  cases h8:n==(grp n).2+8 with
  | true=>
   simp only [cond_true]
   cases h9:(colS (l.drop (i+1))).1==0 <;> simp [h9,uJ]
  | false=>
   simp only [cond_false]
   cases h9:n==(grp n).2+9 with
   | true=>simp [e0',e2',uJ]
   | false=>
    simp only [cond_false]
    cases h10:decide (n<90) <;> simp [e0',e2',uJ]
theorem H0 (l:List Int):(colS l).1=0\/(colS l).1=2\/(colS l).1=4:=by
 match l with
 | []=>simp [colS]
 | [x]=>simp [colS]
 | [x,y]=>simp only [colS];cases decide (x=5)&&isB y <;> simp
 | [x,y,z]=>simp only [colS];cases decide (x=5)&&isB y <;> simp
 | x::y::z::w::r=>simp only [colS];cases decide (x=5)&&isB y <;> cases decide (x=2)&&(isB y&&isB z&&isB w) <;> simp
theorem J4 {p:T3} {n:Int} {rest:List Int} {q:T3} {t:Int} (h:act p n rest=some (q,t)):t=0\/t=2\/t=4:=by
 have hc:=H0 rest
 unfold act at h
 simp only [Bool.cond_eq_ite] at h
 repeat' split at h
 all_goals first | (simp at h;done) | (simp only [Option.some.injEq,Prod.mk.injEq] at h;obtain ⟨_,rfl⟩:=h;first | exact .inl rfl | exact hc)
def kB (p:T3):List Int->T3
 | []=>p
 | n::rest=>match act p n rest with
  | none=>p
  | some (q,t)=>kB q (rest.drop t.toNat)
 termination_by l=>l.length
 decreasing_by simp;omega
theorem zZ (l:List Int) (i:Nat) (hi:l.length<=i) (p:T3):fe l ((i:Int),p.1,p.2.1,p.2.2)=some (.inl (.inr p)):=by
 have e:decide ((i:Int)<(l.length:Int))=false:=by simp;omega
 unfold fe
 simp only [e];rfl
def mrgA:(Int×Int×Int×Int×Int×Int)⊕T3->T3
 | .inl a=>a.2.2.2
 | .inr a=>a
theorem Ed (l:List Int) (hb:l.length<4611686018427387904):∀(m i:Nat) (p:T3),l.length-i<=m->i<=l.length+4 ->
  ∃z,ap (fe l) ((i:Int),p.1,p.2.1,p.2.2)=some z/\mrgA z=kB p (l.drop i):=by
 intro m
 induction m with
 | zero=>
  intro i p hm hi
  refine ⟨.inr p,?_,?_⟩
  ·rw [aj,zZ l i (by omega) p]
  ·rw [List.drop_eq_nil_of_le (by omega)];simp [mrgA,kB]
 | succ m ih=>
  intro i p hm hi
  by_cases hlt:i<l.length
  ·have hs:=Ec p (List.getElem?_eq_getElem hlt) hb
   have hd:=List.drop_eq_getElem_cons hlt
   rw [aj,hs,hd,kB]
   cases ha:act p l[i] (l.drop (i+1)) with
   | none=>exact ⟨_,rfl,rfl⟩
   | some qt=>
    obtain ⟨q,t⟩:=qt
    have ht:=J4 ha
    have e:i64.wrap (i64.wrap ((i:Int)+t)+1)=((i+1+t.toNat:Nat):Int):=by simp only [w64];omega
    obtain ⟨z,h1,h2⟩:=ih (i+1+t.toNat) q (by omega) (by omega)
    refine ⟨z,?_,?_⟩
    ·simp only [e];exact h1
    ·rw [h2];simp only [List.drop_drop]
  ·refine ⟨.inr p,?_,?_⟩
   ·rw [aj,zZ l i (by omega) p]
   ·rw [List.drop_eq_nil_of_le (by omega)];simp [mrgA,kB]
def pZ (p:PenT) (l:List Int):PenT:=bif l.isEmpty then (0,0,0) else kB p l
theorem Il {p:PenT} (hp:aO p=true) {l:List Int} (hb:l.length<4611686018427387904):nB p l=some (pZ p l):=by
 unfold nB xq pZ
 obtain ⟨z,h1,h2⟩:=Ed l hb l.length 0 p (by omega) (by omega)
 simp only [dv,hp,Option.bind_some,Bool.not_true,cond_false,bt]
 cases l with
 | nil=>rfl
 | cons n r=>
  have e:(((n::r).length:Int)==0)=false:=by simp;omega
  simp only [e,cond_false,List.isEmpty_cons]
  simp only [Int.natCast_zero,List.drop_zero] at h1 h2
  rw [h1,<-h2]
  cases z <;> rfl
theorem Kn:∀b:_root_.Fin 256,∀i:_root_.Fin 9,(decide (0<=az .or .i64 b.val (bitv i.val))&&decide (az .or .i64 b.val (bitv i.val)<=255))=true:=by decide +kernel
theorem Ji:∀b:_root_.Fin 256,∀i:_root_.Fin 9,(decide (0<=az .andNot .i64 b.val (bitv i.val))&&decide (az .andNot .i64 b.val (bitv i.val)<=255))=true:=by decide +kernel
theorem H2:∀b:_root_.Fin 256,(decide (0<=az .andNot .i64 b.val 3)&&decide (az .andNot .i64 b.val 3<=255))=true:=by decide +kernel
theorem or_r {b:Int} (hb:0<=b/\b<=255) {i:Nat} (hi:i<9):0<=az .or .i64 b (bitv i)/\az .or .i64 b (bitv i)<=255:=by
 obtain ⟨m,rfl⟩:∃m:Nat,b=(m:Int):=⟨b.toNat,by omega⟩
 have:=Kn ⟨m,by omega⟩ ⟨i,hi⟩
 simpa using this
theorem Mg {b:Int} (hb:0<=b/\b<=255) {i:Nat} (hi:i<9):0<=az .andNot .i64 b (bitv i)/\az .andNot .i64 b (bitv i)<=255:=by
 obtain ⟨m,rfl⟩:∃m:Nat,b=(m:Int):=⟨b.toNat,by omega⟩
 have:=Ji ⟨m,by omega⟩ ⟨i,hi⟩
 simpa using this
theorem KT {b:Int} (hb:0<=b/\b<=255):0<=az .andNot .i64 b 3/\az .andNot .i64 b 3<=255:=by
 obtain ⟨m,rfl⟩:∃m:Nat,b=(m:Int):=⟨b.toNat,by omega⟩
 have:=H2 ⟨m,by omega⟩
 simpa using this
theorem ku {p:PenT}:aO p=true<->(0<=p.1/\p.1<=255)/\(0<=p.2.1/\p.2.1<=256)/\(0<=p.2.2/\p.2.2<=256):=by
 simp only [aO,Bool.and_eq_true,decide_eq_true_eq]
theorem qk {b c:Int} {p:PenT} (h:aO p=true) (hc:0<=c/\c<=256):aO (jr b c p)=true:=by
 rw [ku] at h ⊢
 unfold jr;cases b==30
 ·exact ⟨h.1,h.2.1,hc⟩
 ·exact ⟨h.1,hc,h.2.2⟩
theorem H1 (l:List Int):0<=(colS l).2/\(colS l).2<=256:=by
 have f5:∀y:Int,isB y=true->0<=6*y / 256/\6*y / 256<=5:=fun y h=>by have:=lA h;omega
 match l with
 | []=>simp [colS]
 | [x]=>simp [colS]
 | [x,y]=>
  simp only [colS]
  cases hh:decide (x=5)&&isB y with
  | false=>simp
  | true=>simp only [Bool.and_eq_true] at hh;have:=lA hh.2;simp only [cond_true];omega
 | [x,y,z]=>
  simp only [colS]
  cases hh:decide (x=5)&&isB y with
  | false=>simp
  | true=>simp only [Bool.and_eq_true] at hh;have:=lA hh.2;simp only [cond_true];omega
 | x::y::z::w::r=>
  simp only [colS]
  cases hh:decide (x=5)&&isB y with
  | true=>simp only [Bool.and_eq_true] at hh;have:=lA hh.2;simp only [cond_true];omega
  | false=>
   simp only [cond_false]
   cases h2:decide (x=2)&&(isB y&&isB z&&isB w) with
   | false=>simp
   | true=>
    simp only [Bool.and_eq_true] at h2
    have a1:=f5 y h2.2.1.1;have a2:=f5 z h2.2.1.2;have a3:=f5 w h2.2.2
    simp only [cond_true];omega
theorem Fg {p q:PenT} {n t:Int} {rest:List Int} (hp:aO p=true) (h:act p n rest=some (q,t)):aO q=true:=by
 have hr:=ku.1 hp
 have hc:=H1 rest
 obtain ⟨g1,g2⟩:=JY n
 have gd:(grp n).1=true->(n-(grp n).2+1<=256/\0<=n-(grp n).2+1\/True):=fun _=>.inr trivial
 unfold act at h
 cases h0:n==0 with
 | true=>rw [h0] at h;simp at h;rw [<-h.1];decide
 | false=>
 rw [h0] at h;simp only [cond_false] at h
 cases h1:decide (1<=n)&&decide (n<=9) with
 | true=>
  rw [h1] at h;simp only [cond_true,Option.some.injEq,Prod.mk.injEq] at h
  simp only [Bool.and_eq_true,decide_eq_true_eq] at h1
  rw [<-h.1];exact ku.2 ⟨or_r hr.1 (by omega),hr.2⟩
 | false=>
 rw [h1] at h;simp only [cond_false] at h
 cases h2:n==22 with
 | true=>rw [h2] at h;simp only [cond_true,Option.some.injEq,Prod.mk.injEq] at h;rw [<-h.1];exact ku.2 ⟨KT hr.1,hr.2⟩
 | false=>
 rw [h2] at h;simp only [cond_false] at h
 cases h3:decide (23<=n)&&decide (n<=29) with
 | true=>
  rw [h3] at h;simp only [cond_true,Option.some.injEq,Prod.mk.injEq] at h
  simp only [Bool.and_eq_true,decide_eq_true_eq] at h3
  rw [<-h.1];exact ku.2 ⟨Mg hr.1 (by omega),hr.2⟩
 | false=>
 rw [h3] at h;simp only [cond_false] at h
 cases hg:(grp n).1 with
 | false=>
  rw [hg] at h;simp only [Bool.false_and,cond_false,Option.some.injEq,Prod.mk.injEq] at h
  rw [<-h.1];exact hp
 | true=>
 rw [hg] at h;simp only [Bool.true_and] at h
 have hgr:((grp n).2=30/\(30<=n/\n<40\/90<=n/\n<98))\/((grp n).2=40/\(40<=n/\n<50\/100<=n/\n<108)):=by
  unfold grp at hg ⊢
  split
  ·rename_i h;exact .inl ⟨rfl,.inl h⟩
  ·split
   ·rename_i h;exact .inr ⟨rfl,.inl h⟩
   ·split
    ·rename_i h;exact .inl ⟨rfl,.inr h⟩
    ·split
     ·rename_i h;exact .inr ⟨rfl,.inr h⟩
     ·rename_i a b c d
      rw [if_neg a,if_neg b,if_neg c,if_neg d] at hg;simp at hg
 cases h8:n==(grp n).2+8 with
 | true=>
  rw [h8] at h;simp only [cond_true] at h
  cases h9:(colS rest).1==0 with
  | true=>rw [h9] at h;simp at h
  | false=>
   rw [h9] at h;simp only [cond_false,Option.some.injEq,Prod.mk.injEq] at h
   rw [<-h.1];exact qk hp hc
 | false=>
 rw [h8] at h;simp only [cond_false] at h
 cases h9:n==(grp n).2+9 with
 | true=>
  rw [h9] at h;simp only [cond_true,Option.some.injEq,Prod.mk.injEq] at h
  rw [<-h.1];exact qk hp (by omega)
 | false=>
 rw [h9] at h;simp only [cond_false] at h
 cases h10:decide (n<90) with
 | true=>
  rw [h10] at h;simp only [cond_true,Option.some.injEq,Prod.mk.injEq,decide_eq_true_eq] at h h10
  rw [<-h.1];exact qk hp (by omega)
 | false=>
  rw [h10] at h;simp only [cond_true,cond_false,Option.some.injEq,Prod.mk.injEq,decide_eq_false_iff_not] at h h10
  rw [<-h.1];exact qk hp (by omega)
theorem yu:∀(m:Nat) (l:List Int) (p:PenT),l.length<=m->aO p=true->aO (kB p l)=true
 | _,[],p,_,hp=>by rw [kB];exact hp
 | 0,_::_,p,h,_=>by simp at h
 | m+1,n::rest,p,h,hp=>by
  rw [kB]
  cases ha:act p n rest with
  | none=>exact hp
  | some qt=>
   obtain ⟨q,t⟩:=qt
   exact yu m _ q (by simp at h ⊢;omega) (Fg hp ha)
theorem Ee {p:PenT} (hp:aO p=true) (l:List Int):aO (pZ p l)=true:=by
 unfold pZ
 cases l.isEmpty with
 | true=>show aO (0,0,0)=true;decide
 | false=>exact yu l.length l p (Nat.le_refl _) hp
end Go.SH
namespace Go.SH
open IntKind (i64 u64 i32 u8)
abbrev TabT:=Int×Int×Int×Int
def u64R (w:Int):Prop:=0<=w/\w<18446744073709551616
def bk (t:TabT):Prop:=u64R t.1/\u64R t.2.1/\u64R t.2.2.1/\u64R t.2.2.2
theorem wL (x:Int):u64.wrap x=x % 18446744073709551616:=by simp [IntKind.wrap,IntKind.signed,IntKind.bits]
theorem Es (x:Int):u64R (u64.wrap x):=by rw [wL];unfold u64R;omega
theorem kZ (op:BinOp) (x y:Int):u64R (az op .u64 x y):=Es _
theorem wn (a:Int):nh a=some (decide (0<=a)&&decide (a<200)):=by
 unfold nh
 rw [show decide (a>=0)=decide (0<=a) from rfl]
 cases decide (0<=a) <;> rfl
theorem J0 {a:Int} (h:0<=a/\a<200):(i64.wrap (Int.tdiv a 64)=0\/i64.wrap (Int.tdiv a 64)=1\/i64.wrap (Int.tdiv a 64)=2\/i64.wrap (Int.tdiv a 64)=3)/\0<=Int.tmod a 64:=by
 rw [Int.tdiv_eq_ediv_of_nonneg h.1,w64,Int.tmod_eq_emod_of_nonneg h.1]
 omega
theorem kD {a b c d:Int} (h1:u64R a) (h2:u64R b) (h3:u64R c) (h4:u64R d):bk (a,b,c,d):=⟨h1,h2,h3,h4⟩
theorem Id {t:TabT} (ht:bk t) (a:Int):∃t',gx t a=some t'/\bk t':=by
 obtain ⟨h1,h2,h3,h4⟩:=ht
 unfold gx
 simp only [wn,Option.bind_some,bt]
 cases hs:(decide (0<=a)&&decide (a<200)) with
 | false=>exact ⟨_,rfl,kD h1 h2 h3 h4⟩
 | true=>
  simp only [Bool.and_eq_true,decide_eq_true_eq] at hs
  obtain ⟨hd,hm⟩:=J0 hs
  rcases hd with hd | hd | hd | hd <;> rw [hd] <;> simp only [beq_self_eq_true,cond_true,cond_false,Int.reduceBEq] <;> rw [ac hm]
  ·exact ⟨_,rfl,kD (kZ _ _ _) h2 h3 h4⟩
  ·exact ⟨_,rfl,kD h1 (kZ _ _ _) h3 h4⟩
  ·exact ⟨_,rfl,kD h1 h2 (kZ _ _ _) h4⟩
  ·exact ⟨_,rfl,kD h1 h2 h3 (kZ _ _ _)⟩
theorem Ij {t:TabT} (ht:bk t) (a:Int):∃t',gi t a=some t'/\bk t':=by
 obtain ⟨h1,h2,h3,h4⟩:=ht
 unfold gi
 simp only [wn,Option.bind_some,bt]
 cases hs:(decide (0<=a)&&decide (a<200)) with
 | false=>exact ⟨_,rfl,kD h1 h2 h3 h4⟩
 | true=>
  simp only [Bool.and_eq_true,decide_eq_true_eq] at hs
  obtain ⟨hd,hm⟩:=J0 hs
  rcases hd with hd | hd | hd | hd <;> rw [hd] <;> simp only [beq_self_eq_true,cond_true,cond_false,Int.reduceBEq] <;> rw [ac hm]
  ·exact ⟨_,rfl,kD (kZ _ _ _) h2 h3 h4⟩
  ·exact ⟨_,rfl,kD h1 (kZ _ _ _) h3 h4⟩
  ·exact ⟨_,rfl,kD h1 h2 (kZ _ _ _) h4⟩
  ·exact ⟨_,rfl,kD h1 h2 h3 (kZ _ _ _)⟩
theorem sj (to from':Int):∀(m:Nat) (a:Int) (t:TabT),200-a<=m->0<=a->bk t->∃t',ap (aY to from') (a,t.1,t.2.1,t.2.2.1,t.2.2.2)=some t'/\bk t'
 | m,a,t,hm,ha,ht=>by
  by_cases h:a<(if (200:Int)<to then (200:Int) else to)
  ·have h2:a<200:=by
    have:(if (200:Int)<to then (200:Int) else to)<=200:=by split <;> omega
    omega
   cases m with
   | zero=>omega
   | succ m=>
    have hw:i64.wrap (a+8)=a+8:=ag (by omega)
    by_cases hf:a>=from'
    ·obtain ⟨t',e1,e2⟩:=Id ht a
     have hs:aY to from' (a,t.1,t.2.1,t.2.2.1,t.2.2.2)=some (.inr (a+8,t'.1,t'.2.1,t'.2.2.1,t'.2.2.2)):=by
      have e1':gx (t.1,t.2.1,t.2.2.1,t.2.2.2) a=some t':=e1
      unfold aY
      simp only [bt,Option.bind_some]
      rw [ao h,ao hf]
      simp only [cond_true,e1',Option.bind_some,hw]
     rw [aj,hs]
     exact sj to from' m (a+8) t' (by omega) (by omega) e2
    ·have hs:aY to from' (a,t.1,t.2.1,t.2.2.1,t.2.2.2)=some (.inr (a+8,t.1,t.2.1,t.2.2.1,t.2.2.2)):=by
      unfold aY
      simp only [bt,Option.bind_some]
      rw [ao h,au hf]
      simp only [cond_true,cond_false,Option.bind_some,hw]
     rw [aj,hs]
     exact sj to from' m (a+8) t (by omega) (by omega) ht
  ·have hs:aY to from' (a,t.1,t.2.1,t.2.2.1,t.2.2.2)=some (.inl (t.1,t.2.1,t.2.2.1,t.2.2.2)):=by
    unfold aY
    simp only [bt,Option.bind_some]
    rw [au h]
    simp only [cond_false]
   rw [aj,hs]
   exact ⟨t,rfl,ht⟩
theorem CX {t:TabT} (ht:bk t) (from' to:Int):∃t',cx t from' to=some t'/\bk t':=by
 obtain ⟨t',h1,h2⟩:=sj to from' 200 8 t (by omega) (by omega) ht
 unfold cx
 rw [h1]
 exact ⟨t',rfl,h2⟩
theorem qd:bk (0,0,0,0):=by unfold bk u64R;simp
theorem Gv {n:Nat} (h:n<=200):bk (ne n):=by
 have:=kE h
 unfold gh at this
 obtain ⟨t',h1,h2⟩:=CX qd 0 (n:Int)
 rw [h1] at this
 simp at this
 rw [<-this];exact h2
theorem LT:(2:Int)^58=288230376151711744:=by decide +kernel
theorem KL {x:Int} (r1:0<=x) (r2:x<18446744073709551616):0<=Int.fdiv x (2^58)/\Int.fdiv x (2^58)<64:=by
 rw [LT,Int.fdiv_eq_ediv_of_nonneg _ (by omega)];omega
theorem HY:lV.length=64:=by decide +kernel
def tzV (x:Int):Option Int:=(getI lV (Int.fdiv x (2^58))).bind fun x4=>some (i64.wrap (x4.toNat:Int))
theorem Kd {x:Int} (h:u64R x):∃z,tzV x=some z/\0<=z/\z<=300:=by
 obtain ⟨r1,r2⟩:=h
 have hd:=KL r1 r2
 unfold tzV
 generalize Int.fdiv x (2^58)=y at *
 obtain ⟨k,hk⟩:∃k:Nat,y=k:=⟨y.toNat,by omega⟩
 subst hk
 rw [aP]
 have hl:k<lV.length:=by rw [HY];omega
 rw [List.getElem?_eq_getElem hl]
 generalize lV[k]=u
 have hb:u.toNat<256:=u.toNat_lt
 refine ⟨_,rfl,?_⟩
 rw [ag (by omega)];omega
def tzA (w:Int):Int:=az .and .u64 w (u64.wrap ((0:Int)-w))
def tzX (w:Int):Int:=u64.wrap (tzA w*285870213051353865)
theorem K9 (w:Int):u64R (tzX w):=Es _
theorem JI (w:Int):bn w=(bif w==0 then some true else some false:Option Bool).bind fun x1=>bif x1 then some 64 else tzV (tzX w):=rfl
theorem K7 {w:Int} (h:u64R w):∃z,bn w=some z/\0<=z/\z<=300:=by
 obtain ⟨z,h1,h2⟩:=Kd (K9 w)
 rw [JI,bt,h1]
 cases (w==0) with
 | true=>exact ⟨64,rfl,by omega,by omega⟩
 | false=>exact ⟨z,rfl,h2⟩
theorem Hb {n:Nat} (h0:0<n) (h:n<18446744073709551616):wU (n:Int)=((n &&& (n-1):Nat):Int):=by
 unfold wU az
 have e1:u64.wrap ((n:Int)-1)=((n-1:Nat):Int):=by rw [wL];omega
 rw [e1]
 have hb:IntKind.u64.bits=64:=rfl
 have f:∀m:Nat,m<18446744073709551616->(BitVec.ofInt IntKind.u64.bits (m:Int)).toNat=m:=fun m hm=>by
  rw [hb,BitVec.toNat_ofInt];omega
 simp only [BitVec.toNat_and]
 rw [f n h,f (n-1) (by omega),wL]
 have:n &&& (n-1)<=n:=Nat.and_le_left
 omega
theorem Jq {n j:Nat} (h:2^j ∣ n) (h0:0<n):2^(j+1) ∣ (n &&& (n-1)):=by
 obtain ⟨m,rfl⟩:=h
 refine Nat.dvd_of_mod_eq_zero (Nat.eq_of_testBit_eq fun i=>?_)
 rw [Nat.testBit_mod_two_pow,Nat.zero_testBit]
 by_cases hi:i<j+1
 ·simp only [hi,decide_true,Bool.true_and,Nat.testBit_and]
  by_cases h2:i<j
  ·rw [Nat.testBit_two_pow_mul]
   simp [Nat.not_le.2 h2]
  ·have:i=j:=by omega
   subst this
   rw [Nat.testBit_two_pow_mul]
   simp only [ge_iff_le,Nat.le_refl,decide_true,Bool.true_and,Nat.sub_self,Nat.testBit_zero]
   by_cases hm:m % 2=1
   ·obtain ⟨q,rfl⟩:∃q,m=2*q+1:=⟨m / 2,by omega⟩
    have hp:0<2^i:=Nat.two_pow_pos i
    have e:2^i*(2*q+1)-1=2^i*(2*q)+(2^i-1):=by rw [Nat.mul_add,Nat.mul_one];omega
    rw [e,Nat.testBit_two_pow_mul_add _ (by omega)]
    simp
   ·simp [hm]
 ·simp [hi]
theorem wW (ws:List Int) (hws:ws.length=4) (hr:∀w∈ws,u64R w):∀(k i j:Nat) (w:Int),i<=3->u64R w->(∃n:Nat,w=n/\2^j ∣ n)->(65-j)+(3-i)*66<=k->j<=64 ->
  ∃l,lg bn vA wU ws k i w=some l/\∀x∈l,0<=x/\x<200
 | 0,i,j,w,hi,hw,_,hk,hj=>by omega
 | k+1,i,j,w,hi,hw,hwn,hk,hj=>by
  obtain ⟨n,rfl,hd⟩:=hwn
  unfold lg
  by_cases h0:(n:Int)=0
  ·rw [if_pos h0]
   cases he:ws[i+1]? with
   | none=>exact ⟨[],rfl,by simp⟩
   | some w'=>
    have hi2:i+1<4:=by rw [<-hws];exact (List.getElem?_eq_some_iff.1 he).1
    have hw':=hr w' (List.mem_of_getElem? he)
    have hw2:=hw'
    unfold u64R at hw2
    exact wW ws hws hr k (i+1) 0 w' (by omega) hw' ⟨w'.toNat,by omega,by simp⟩ (by omega) (by omega)
  ·rw [if_neg h0]
   have hn:0<n:=by omega
   have hw2:=hw
   unfold u64R at hw2
   have hj2:j<64:=by
    rcases Nat.lt_or_ge j 64 with h | h
    ·exact h
    ·have:j=64:=by omega
     subst this
     have:=Nat.le_of_dvd hn hd
     have e:(2:Nat)^64=18446744073709551616:=by decide
     omega
   obtain ⟨z,hz,hz1,hz2⟩:=K7 hw
   rw [hz]
   simp only [Option.bind_some]
   have hat:vA (i:Int) z=64*(i:Int)+z:=by
    unfold vA
    rw [ag (x:=64*(i:Int)) (by omega),ag (by omega)]
   rw [hat]
   by_cases h2:200<=64*(i:Int)+z
   ·rw [if_pos h2];exact ⟨[],rfl,by simp⟩
   ·rw [if_neg h2,Hb hn (by omega)]
    have hle:n &&& (n-1)<=n:=Nat.and_le_left
    obtain ⟨l,h3,h4⟩:=wW ws hws hr k i (j+1) ((n &&& (n-1):Nat):Int) hi (by unfold u64R;omega) ⟨_,rfl,Jq hd hn⟩ (by omega) (by omega)
    rw [h3]
    refine ⟨_,rfl,fun x hx=>?_⟩
    rcases List.mem_cons.1 hx with rfl | hx
    ·omega
    ·exact h4 x hx
theorem vw {t:TabT} (ht:bk t):∃l,jB t=some l/\∀x∈l,0<=x/\x<200:=by
 obtain ⟨h1,h2,h3,h4⟩:=ht
 unfold jB outF
 simp only [List.getElem?_cons_zero]
 have hw2:=h1
 unfold u64R at hw2
 exact wW [t.1,t.2.1,t.2.2.1,t.2.2.2] rfl (by simp;exact ⟨h1,h2,h3,h4⟩) 300 0 0 t.1 (by omega) h1 ⟨t.1.toNat,by omega,by simp⟩ (by omega) (by omega)
theorem Jt {t:TabT} (ht:bk t) {a c:Int} (ha:0<=a) (hc:1<=c/\c<=200):∃x,jm t a c=some x/\0<=x/\x<c:=by
 obtain ⟨l,h1,h2⟩:=vw ht
 unfold jm
 rw [h1]
 refine ⟨_,rfl,?_⟩
 have hcc:aR c=c:=by
  unfold aR
  rw [if_neg (by omega:¬(200:Int)<c)]
  simp only
  split <;> omega
 rw [hcc]
 have key:∀(l:List Int) (r s:Int) (o:Option (Option Nat)),runX (kW a c) r l=(s,o)->(o=none\/(a<s/\s<c)):=by
  intro l
  induction l with
  | nil=>intro r s o h;simp [runX] at h;exact .inl h.2.symm
  | cons x l ih=>
   intro r s o h
   simp only [runX] at h
   by_cases hx:a<x/\x<c
   ·have e:kW a c r x=(x,some none):=if_pos hx
    rw [e] at h;simp at h;rw [<-h.1];exact .inr hx
   ·have e:kW a c r x=(r,none):=if_neg hx
    rw [e] at h;exact ih _ _ _ h
 unfold vG EW
 cases hr:runX (kW a c) 0 l with
 | mk s o=>
  cases o with
  | none=>simp only;rw [ag (by omega)];omega
  | some k=>
   rcases key l 0 s (some k) hr with h | h
   ·simp at h
   ·simp only;omega
theorem JA {t:TabT} (ht:bk t) {a:Int} (ha:0<=a):∃x,jn t a=some x/\0<=x/\x<=a:=by
 obtain ⟨l,h1,h2⟩:=vw ht
 unfold jn
 rw [h1]
 refine ⟨_,rfl,?_⟩
 have key:∀(l:List Int) (r:Int),(∀x∈l,0<=x/\x<200)->0<=r/\r<=a->0<=(runX (jA a) r l).1/\(runX (jA a) r l).1<=a:=by
  intro l
  induction l with
  | nil=>intro r _ hr;exact hr
  | cons x l ih=>
   intro r hl hr
   simp only [runX]
   by_cases hx:a<=x
   ·have e:jA a r x=(r,some (some 0)):=if_pos hx
    rw [e];exact hr
   ·have e:jA a r x=(x,none):=if_neg hx
    rw [e]
    exact ih x (fun y hy=>hl y (List.mem_cons_of_mem _ hy)) ⟨(hl x (by simp)).1,by omega⟩
 exact key l 0 h2 ⟨by omega,ha⟩
end Go.SH
namespace Go.SH
open IntKind (i64 u64 i32 u8)
theorem bto (a b:Bool):(bif a then some true else some b:Option Bool)=some (a||b):=by cases a <;> cases b <;> rfl
theorem btor (a b:Bool):(bif a then some a else some b:Option Bool)=some (a||b):=by cases a <;> cases b <;> rfl
theorem CS {α:Type} (a:Bool) (x y:α):(bif a then some x else some y)=some (bif a then x else y):=by cases a <;> rfl
theorem rleq {α R:Type} (l:List α) (k:Option R):req (l.length=l.length) k=k:=ac rfl
structure EnvS (R C:Nat) (top bottom:Int) (p:PenT):Prop where
 sz:szR R C
 etop:0<=top
 etb:top<=bottom
 ebot:bottom<R
 epen:aO p=true
def scrM (g:aA) (f bottom n:Int) (p:PenT):aA:=qf g f.toNat bottom.toNat n p
theorem Ap {R C:Nat} {bottom f n:Int} {p:PenT} {g:aA} (hs:szR R C) (hp:aO p=true) (hb:bottom<R) (hg:gok g R C) (h1:0<=f) (h2:f<=bottom) (hn:-1000000<=n/\n<=1000000) :
  bD f n p.1 p.2.1 p.2.2 bottom g=some (scrM g f bottom n p)/\gok (scrM g f bottom n p) R C:=by
 obtain ⟨F,rfl⟩:∃k:Nat,f=k:=⟨f.toNat,by omega⟩
 obtain ⟨B,rfl⟩:∃k:Nat,bottom=k:=⟨bottom.toNat,by omega⟩
 unfold scrM
 simp only [Int.toNat_natCast]
 refine ⟨?_,BX hg hs hp (by omega) (by omega)⟩
 unfold bD
 rw [nz]
 have:=F9 hg hs hp (T:=F) (B:=B) (n:=n) (by omega) (by omega) hn
 obtain ⟨pb,pf,pk⟩:=p
 rw [this]
 simp only [Option.bind_some,aJ]
def mh (R:Int) (row top bottom:Int) (p:PenT) (g:aA):aA×Int:=
 if row=bottom then (scrM g top bottom 1 p,row) else (g,if R-1<row+1 then R-1 else row+1)
theorem tX {R C:Nat} {row top bottom:Int} {p:PenT} {g:aA} (e:EnvS R C top bottom p) (hg:gok g R C) (hr:0<=row/\row<R) (m:aA) (ti:List Int) :
  bA (R:Int) row p.1 p.2.1 p.2.2 top bottom g m ti=some (mh R row top bottom p g)/\gok (mh R row top bottom p g).1 R C/\0<=(mh R row top bottom p g).2/\(mh R row top bottom p g).2<R:=by
 have hs:=e.sz
 unfold szR at hs
 have e1:i64.wrap ((R:Int)-1)=(R:Int)-1:=ag (by omega)
 have e2:i64.wrap (row+1)=row+1:=ag (by omega)
 unfold bA mh
 simp only [bt,Option.bind_some,e1,e2]
 by_cases h:row=bottom
 ·subst h
  obtain ⟨h1,h2⟩:=Ap e.sz e.epen e.ebot hg e.etop e.etb (n:=1) (by omega)
  simp only [beq_self_eq_true,cond_true,if_true,rleq,aJ]
  rw [h1]
  simp only [Option.bind_some,rleq,aJ]
  exact ⟨trivial,h2,hr⟩
 ·have:(row==bottom)=false:=by simpa using h
  rw [this,if_neg h]
  simp only [cond_false,rleq,aJ]
  refine ⟨trivial,hg,?_⟩
  split <;> omega
def tY (R top bottom:Int) (p:PenT):Nat->aA×Int->aA×Int
 | 0,x=>x
 | k+1,x=>tY R top bottom p k (mh R x.2 top bottom p x.1)
theorem zE {R C:Nat} {top bottom:Int} {p:PenT} (e:EnvS R C top bottom p) (m:aA) (ti:List Int) {ch:ChT} (hn:ch.2.1<=1000):∀(k:Nat) (i:Int) (g:aA) (row:Int),ch.2.1-i<=k->(k:Int)<=ch.2.1-i\/k=0->0<=i->gok g R C->0<=row/\row<R ->
  ap (bu ch ti m (R:Int) p.1 p.2.1 p.2.2 top bottom) (i,g,row)=some (tY R top bottom p k (g,row))/\gok (tY R top bottom p k (g,row)).1 R C/\0<=(tY R top bottom p k (g,row)).2/\(tY R top bottom p k (g,row)).2<R
 | 0,i,g,row,h1,h2,hi,hg,hr=>by
  rw [aj]
  have:bu ch ti m (R:Int) p.1 p.2.1 p.2.2 top bottom (i,g,row)=some (.inl (g,row)):=by
   unfold bu
   simp only [bt,Option.bind_some]
   rw [au (by omega:¬i<ch.2.1)]
   simp only [cond_false,rleq,aJ]
  rw [this]
  exact ⟨rfl,hg,hr⟩
 | k+1,i,g,row,h1,h2,hi,hg,hr=>by
  rw [aj]
  obtain ⟨f1,f2,f3⟩:=tX e hg hr m ti
  have:bu ch ti m (R:Int) p.1 p.2.1 p.2.2 top bottom (i,g,row)=some (.inr (i+1,mh R row top bottom p g)):=by
   unfold bu
   simp only [bt,Option.bind_some]
   rw [ao (by omega:i<ch.2.1)]
   simp only [cond_true,rleq,aJ]
   rw [f1]
   simp only [Option.bind_some,rleq,aJ]
   rw [ag (by omega)]
  rw [this]
  exact zE e m ti hn k (i+1) _ _ (by omega) (by omega) (by omega) f2 f3
theorem eQ {n lo hi:Int} (h:lo<=hi):lo<=betw n lo hi/\betw n lo hi<=hi:=by
 unfold betw
 split <;> split <;> omega
def oF (modes:Int):Bool:=az .and .i64 modes 2 !=0
def gw (modes:Int):Bool:=az .and .i64 modes 1 !=0
def insB (modes:Int):Bool:=az .and .i64 modes 4 !=0
def iB (row col R C top bottom modes:Int):Int×Int:=(bif oF modes then betw (top+row) top bottom else betw row 0 (R-1),betw col 0 (C-1))
theorem tT {R C:Nat} {row col top bottom:Int} (hs:szR R C) (ht:0<=top) (htb:top<=bottom) (hb:bottom<R) (hr:-1000000<=row/\row<=1000000) (modes:Int) :
  ci row col (R:Int) (C:Int) top bottom modes=some (iB row col R C top bottom modes)/\(0<=(iB row col R C top bottom modes).1/\(iB row col R C top bottom modes).1<R)/\0<=(iB row col R C top bottom modes).2/\(iB row col R C top bottom modes).2<C:=by
 unfold szR at hs
 refine ⟨?_,?_,?_⟩
 ·unfold ci iB
  rw [ag (x:=top+row) (by omega),ag (x:=(R:Int)-1) (by omega),ag (x:=(C:Int)-1) (by omega)]
  simp only [bt,Option.bind_some,kA]
  unfold oF
  cases (az .and .i64 modes 2 !=0) <;> rfl
 ·unfold iB
  cases oF modes with
  | true=>have:=eQ (n:=top+row) htb;simp only [cond_true];omega
  | false=>have:=eQ (n:=row) (lo:=0) (hi:=(R:Int)-1) (by omega);simp only [cond_false];omega
 ·have:=eQ (n:=col) (lo:=0) (hi:=(C:Int)-1) (by omega)
  unfold iB;simp only;omega
def lu (rows cols R C row col top bottom:Int):Int×Int:=
 (if 0<rows then (if (if row<=bottom then bottom else R-1)<row+rows then (if row<=bottom then bottom else R-1) else row+rows)
  else if rows<0 then (if (if top<=row then top else 0)>row+rows then (if top<=row then top else 0) else row+rows) else row,betw (col+cols) 0 (C-1))
theorem IB {R C:Nat} {rows cols row col top bottom:Int} (hs:szR R C) (ht:0<=top) (htb:top<=bottom) (hb:bottom<R) (hn:-1000000<=rows/\rows<=1000000) (hm:-1000000<=cols/\cols<=1000000) (hr:0<=row/\row<R) (hc:0<=col/\col<C) :
  fx rows cols (R:Int) (C:Int) row col top bottom=some (lu rows cols R C row col top bottom)/\(0<=(lu rows cols R C row col top bottom).1/\(lu rows cols R C row col top bottom).1<R)/\0<=(lu rows cols R C row col top bottom).2/\(lu rows cols R C row col top bottom).2<C:=by
 unfold szR at hs
 refine ⟨?_,?_,?_⟩
 ·unfold fx lu
  rw [ag (x:=row+rows) (by omega),ag (x:=(R:Int)-1) (by omega),ag (x:=(C:Int)-1) (by omega),ag (x:=col+cols) (by omega)]
  simp only [bt,Option.bind_some,kA,ge_iff_le,gt_iff_lt,CS]
  by_cases h1:top<=row <;> by_cases h2:row<=bottom <;> by_cases h3:0<rows <;> by_cases h4:rows<0 <;> simp [h1,h2,h3,h4]
 ·unfold lu
  simp only
  split
  ·split <;> split <;> omega
  ·split
   ·split <;> split <;> omega
   ·omega
 ·have:=eQ (n:=col+cols) (lo:=0) (hi:=(C:Int)-1) (by omega)
  unfold lu;simp only;omega
def my (t:TabT) (C:Int):Nat->Int->Int
 | 0,c=>c
 | k+1,c=>my t C k ((jm t c C).getD 0)
def n9 (t:TabT):Nat->Int->Int
 | 0,c=>c
 | k+1,c=>n9 t k ((jn t c).getD 0)
theorem zp {C:Nat} {t:TabT} (ht:bk t) (hC:1<=C/\C<=200) {ch:ChT} (hn:ch.2.1<=1000):∀(k:Nat) (i col:Int),ch.2.1-i<=k->(k:Int)<=ch.2.1-i\/k=0->0<=i->0<=col/\col<C ->
  ap (bq ch t.1 t.2.1 t.2.2.1 t.2.2.2 (C:Int)) (i,col)=some (my t C k col)/\0<=my t C k col/\my t C k col<C
 | 0,i,col,h1,h2,hi,hc=>by
  rw [aj]
  have:bq ch t.1 t.2.1 t.2.2.1 t.2.2.2 (C:Int) (i,col)=some (.inl col):=by
   unfold bq
   simp only [bt,Option.bind_some]
   rw [au (by omega:¬i<ch.2.1)]
   simp only [cond_false]
  rw [this]
  exact ⟨rfl,hc⟩
 | k+1,i,col,h1,h2,hi,hc=>by
  rw [aj]
  obtain ⟨x,hx,x1,x2⟩:=Jt ht (a:=col) (c:=(C:Int)) hc.1 (by omega)
  have:bq ch t.1 t.2.1 t.2.2.1 t.2.2.2 (C:Int) (i,col)=some (.inr (i+1,x)):=by
   unfold bq
   simp only [bt,Option.bind_some]
   rw [ao (by omega:i<ch.2.1)]
   simp only [cond_true]
   erw [hx]
   simp only [Option.bind_some]
   rw [ag (by omega)]
  rw [this]
  have hu:my t C (k+1) col=my t C k x:=by rw [my,hx];rfl
  rw [hu]
  exact zp ht hC hn k (i+1) x (by omega) (by omega) (by omega) ⟨x1,x2⟩
theorem zY {t:TabT} (ht:bk t) {C:Nat} {ch:ChT} (hn:-1000<=ch.2.1/\ch.2.1<=1000):∀(k:Nat) (i col:Int),-ch.2.1-i<=k->(k:Int) <= -ch.2.1-i\/k=0->0<=i->0<=col/\col<C ->
  ap (bp ch t.1 t.2.1 t.2.2.1 t.2.2.2) (i,col)=some (n9 t k col)/\0<=n9 t k col/\n9 t k col<C
 | 0,i,col,h1,h2,hi,hc=>by
  rw [aj]
  have:bp ch t.1 t.2.1 t.2.2.1 t.2.2.2 (i,col)=some (.inl col):=by
   unfold bp
   rw [ag (x:=0-ch.2.1) (by omega)]
   simp only [bt,Option.bind_some]
   rw [au (by omega:¬i<0-ch.2.1)]
   simp only [cond_false]
  rw [this]
  exact ⟨rfl,hc⟩
 | k+1,i,col,h1,h2,hi,hc=>by
  rw [aj]
  obtain ⟨x,hx,x1,x2⟩:=JA ht (a:=col) hc.1
  have:bp ch t.1 t.2.1 t.2.2.1 t.2.2.2 (i,col)=some (.inr (i+1,x)):=by
   unfold bp
   rw [ag (x:=0-ch.2.1) (by omega)]
   simp only [bt,Option.bind_some]
   rw [ao (by omega:i<0-ch.2.1)]
   simp only [cond_true]
   erw [hx]
   simp only [Option.bind_some]
   rw [ag (by omega)]
  rw [this]
  have hu:n9 t (k+1) col=n9 t k x:=by rw [n9,hx];rfl
  rw [hu]
  exact zY ht hn k (i+1) x (by omega) (by omega) (by omega) ⟨x1,by omega⟩
def rowG (g:aA) (row:Int):List ak:=(g[row.toNat]?).getD []
theorem gY {g:aA} {R C:Nat} (hg:gok g R C) {row:Int} (hr:0<=row/\row<R):g[row.toNat]?=some (rowG g row)/\(rowG g row).length=C/\aE (rowG g row)=true:=by
 obtain ⟨l,h1,h2⟩:=fR hg (i:=row.toNat) (by omega)
 unfold rowG
 rw [h1]
 exact ⟨rfl,h2⟩
def setR (g:aA) (row:Int) (l:List ak):aA:=g.set row.toNat l
theorem nm {g:aA} {R C:Nat} (hg:gok g R C) {row:Int} {l:List ak} (h:aE l=true/\l.length=C):gok (setR g row l) R C:=I4 hg ⟨h.2,h.1⟩
def mw (b:Bool) (R top bottom:Int) (p:PenT) (x:aA×Int×Int):aA×Int×Int:=bif b then ((mh R x.2.1 top bottom p x.1).1,(mh R x.2.1 top bottom p x.1).2,0) else x
def oD (R C top bottom:Int) (wr:Bool) (p:PenT) (n:Int) (x:aA×Int×Int):aA×Int×Int:=
 bif decide (C-n<x.2.2) then (bif wr then mw true R top bottom p x else (x.1,x.2.1,C-n)) else x
def sH (C:Int) (modes:Int) (p:PenT) (c n:Int) (x:aA×Int×Int):aA×Int×Int×Bool:=
 (setR x.1 x.2.1 (putM (bif insB modes then gq (rowG x.1 x.2.1) x.2.2 n p else rowG x.1 x.2.1) x.2.2 c p),x.2.1,bif decide (C<=x.2.2+n) then C-1 else x.2.2+n,bif decide (C<=x.2.2+n) then gw modes else false)
def ko (R C row col:Int) (late:Bool) (top bottom modes:Int) (p:PenT) (g:aA) (c:Int):aA×Int×Int×Bool:=
 bif decide (ae c<0)||decide (C<ae c) then (g,row,col,late)
 else bif ae c==0 then (setR g row (rb (rowG g row) (bif late then col else col-1) c),row,col,late)
 else sH C modes p c (ae c) (oD R C top bottom (gw modes) p (ae c) (mw (late&&gw modes) R top bottom p (g,row,col)))
def inG (R C:Nat) (x:aA×Int×Int):Prop:=gok x.1 R C/\(0<=x.2.1/\x.2.1<R)/\0<=x.2.2/\x.2.2<C
theorem oI {R C:Nat} {top bottom:Int} {p:PenT} (e:EnvS R C top bottom p) {x:aA×Int×Int} (hx:inG R C x) (b:Bool):inG R C (mw b R top bottom p x):=by
 have hs:=e.sz
 unfold szR at hs
 cases b with
 | false=>exact hx
 | true=>
  obtain ⟨h1,h2,h3⟩:=tX e hx.1 hx.2.1 [] []
  exact ⟨h2,h3,by unfold mw;simp only [cond_true];omega⟩
theorem uG {R C:Nat} {top bottom:Int} {p:PenT} (e:EnvS R C top bottom p) {x:aA×Int×Int} (hx:inG R C x) (wr:Bool) {n:Int} (hn:1<=n/\n<=C):inG R C (oD R C top bottom wr p n x)/\(oD R C top bottom wr p n x).2.2<=C-n:=by
 unfold oD
 by_cases h:(C:Int)-n<x.2.2
 ·rw [ao h]
  cases wr with
  | true=>
   refine ⟨oI e hx true,?_⟩
   unfold mw;simp only [cond_true];omega
  | false=>
   refine ⟨⟨hx.1,hx.2.1,?_⟩,?_⟩
   ·simp only [cond_true,cond_false];omega
   ·simp only [cond_true,cond_false];omega
 ·rw [au h]
  refine ⟨hx,?_⟩
  simp only [cond_false];omega
theorem GL {R C:Nat} {modes:Int} {p:PenT} (hp:aO p=true) {x:aA×Int×Int} (hx:inG R C x) (c:Int) {n:Int} (hn:1<=n/\n<=C) (h:x.2.2<=C-n) :
  inG R C ((sH C modes p c n x).1,(sH C modes p c n x).2.1,(sH C modes p c n x).2.2.1)/\((sH C modes p c n x).2.2.2=true->(sH C modes p c n x).2.2.1=(C:Int)-1):=by
 obtain ⟨h1,h2,h3⟩:=hx
 obtain ⟨k1,k2,k3⟩:=gY h1 h2
 have hl:aE (bif insB modes then gq (rowG x.1 x.2.1) x.2.2 n p else rowG x.1 x.2.1)=true/\(bif insB modes then gq (rowG x.1 x.2.1) x.2.2 n p else rowG x.1 x.2.1).length=C:=by
  cases insB modes with
  | true=>exact ⟨(jv k3 hp).1,(jv k3 hp).2.trans k2⟩
  | false=>exact ⟨k3,k2⟩
 have hput:=Ce (a:=x.2.2) (c:=c) hl.1 hp
 unfold sH
 refine ⟨⟨nm h1 ⟨hput.1,hput.2.trans hl.2⟩,h2,?_⟩,?_⟩
 ·by_cases h4:(C:Int)<=x.2.2+n
  ·rw [ao h4];simp only [cond_true];omega
  ·rw [au h4];simp only [cond_false];omega
 ·by_cases h4:(C:Int)<=x.2.2+n
  ·rw [ao h4];intro _;rfl
  ·rw [au h4];intro h5;simp at h5
theorem FF {R C:Nat} {top bottom:Int} {p:PenT} (e:EnvS R C top bottom p) {g:aA} {row col:Int} {late:Bool} (hx:inG R C (g,row,col)) (hl:late=true->col=(C:Int)-1) (modes c:Int) :
  inG R C ((ko R C row col late top bottom modes p g c).1,(ko R C row col late top bottom modes p g c).2.1,(ko R C row col late top bottom modes p g c).2.2.1)/\((ko R C row col late top bottom modes p g c).2.2.2=true->(ko R C row col late top bottom modes p g c).2.2.1=(C:Int)-1):=by
 have hco:=n7 c
 unfold ko
 cases h1:(decide (ae c<0)||decide ((C:Int)<ae c)) with
 | true=>exact ⟨hx,hl⟩
 | false=>
  simp only [Bool.or_eq_false_iff,decide_eq_false_iff_not] at h1
  simp only [cond_false]
  cases h2:(ae c==0) with
  | true=>
   obtain ⟨k1,k2,k3⟩:=gY hx.1 hx.2.1
   have hm:=uV (a:=bif late then col else col-1) (c:=c) k3
   exact ⟨⟨nm hx.1 ⟨hm.1,hm.2.trans k2⟩,hx.2⟩,hl⟩
  | false=>
   have h2':ae c≠0:=by simpa using h2
   simp only [cond_false]
   obtain ⟨q1,q2⟩:=uG e (oI e hx (late&&gw modes)) (gw modes) (n:=ae c) (by omega)
   exact GL e.epen q1 c (by omega) q2
theorem G0 {R C:Nat} {top bottom:Int} {p:PenT} (e:EnvS R C top bottom p) {g:aA} {row col:Int} {late:Bool} (hx:inG R C (g,row,col)) (modes c:Int) (m:aA) (ti:List Int) :
  eU c (R:Int) (C:Int) row col late p.1 p.2.1 p.2.2 top bottom modes g m ti=some (ko R C row col late top bottom modes p g c):=by
 have hco:=n7 c
 have hs:=e.sz
 unfold szR at hs
 obtain ⟨k1,k2,k3⟩:=gY hx.1 hx.2.1
 have hgl:g.length=R:=hx.1.1
 have hrow:=hx.2.1
 have hcol:=hx.2.2
 simp only at k1 k2 k3 hrow hcol
 unfold eU ko
 simp only [bt]
 simp only [jk,Option.bind_some,bto,bt2,gt_iff_lt,Bool.and_true,Bool.or_false]
 rw [ac (by omega),k1]
 simp only [Option.bind_some]
 cases h1:(decide (ae c<0)||decide ((C:Int)<ae c)) with
 | true=>simp only [cond_true,rleq,aJ]
 | false=>
  simp only [Bool.or_eq_false_iff,decide_eq_false_iff_not] at h1
  simp only [cond_false]
  cases h2:(ae c==0) with
  | true=>
   simp only [cond_true,CS,Option.bind_some]
   rw [ag (x:=col-1) (by omega),Jy k3]
   simp only [Option.bind_some]
   rw [ac (by omega)]
   have e2:(bif !late then col-1 else col)=(bif late then col else col-1):=by cases late <;> rfl
   rw [e2,ac (by simp)]
   rfl
  | false=>
   have h2':ae c≠0:=by simpa using h2
   simp only [cond_false,rleq,aJ]
   have ew:(az .and .i64 modes 1 !=0)=gw modes:=rfl
   have ei:(az .and .i64 modes 4 !=0)=insB modes:=rfl
   simp only [ew,ei]
   have s1:((bif late&&gw modes then (bA (R:Int) row p.1 p.2.1 p.2.2 top bottom g m ti).bind fun x13=>req (x13.1.length=x13.1.length) (some (x13.1,x13.2,(0:Int))) else some (g,row,col):Option (aA×Int×Int)))=some (mw (late&&gw modes) R top bottom p (g,row,col)):=by
    cases (late&&gw modes) with
    | false=>rfl
    | true=>
     rw [(tX e hx.1 hx.2.1 m ti).1]
     simp only [cond_true,Option.bind_some,rleq,aJ]
     rfl
   have ha:=oI e hx (late&&gw modes)
   simp only [rleq,aJ] at s1
   rw [s1]
   simp only [Option.bind_some]
   generalize mw (late&&gw modes) R top bottom p (g,row,col)=x at *
   rw [ag (x:=(C:Int)-ae c) (by omega)]
   have s2:((bif decide ((C:Int)-ae c<x.2.2) then bif gw modes then (bA (R:Int) x.2.1 p.1 p.2.1 p.2.2 top bottom x.1 m ti).bind fun x20=>some (x20.1,x20.2,(0:Int)) else some (x.1,x.2.1,(C:Int)-ae c) else some (x.1,x.2.1,x.2.2):Option (aA×Int×Int)))=some (oD R C top bottom (gw modes) p (ae c) x):=by
    unfold oD
    cases decide ((C:Int)-ae c<x.2.2) with
    | false=>rfl
    | true=>
     cases gw modes with
     | false=>rfl
     | true=>
      rw [(tX e ha.1 ha.2.1 m ti).1]
      rfl
   rw [s2]
   simp only [Option.bind_some]
   obtain ⟨hb,hb2⟩:=uG e ha (gw modes) (n:=ae c) (by omega)
   generalize oD R C top bottom (gw modes) p (ae c) x=y at *
   obtain ⟨j1,j2,j3⟩:=gY hb.1 hb.2.1
   have hyl:y.1.length=R:=hb.1.1
   obtain ⟨hy1,hy2,hy3⟩:=hb
   rw [ac (by omega),j1]
   simp only [Option.bind_some]
   have hins:(de (rowG y.1 y.2.1) y.2.2 (ae c) (p.1,p.2.1,p.2.2))=some (gq (rowG y.1 y.2.1) y.2.2 (ae c) p):=z7 j3 e.epen
   rw [hins]
   simp only [Option.bind_some,CS]
   have hl:aE (bif insB modes then gq (rowG y.1 y.2.1) y.2.2 (ae c) p else rowG y.1 y.2.1)=true:=by
    cases insB modes with
    | true=>exact (jv j3 e.epen).1
    | false=>exact j3
   have hput:(ip (bif insB modes then gq (rowG y.1 y.2.1) y.2.2 (ae c) p else rowG y.1 y.2.1) y.2.2 c (p.1,p.2.1,p.2.2))=some (putM (bif insB modes then gq (rowG y.1 y.2.1) y.2.2 (ae c) p else rowG y.1 y.2.1) y.2.2 c p):=KY hl e.epen
   rw [hput]
   simp only [Option.bind_some,ge_iff_le]
   rw [ac (by omega),ag (x:=y.2.2+ae c) (by omega),ag (x:=(C:Int)-1) (by omega),ac (by simp),ac (by simp)]
   unfold sH
   cases decide ((C:Int)<=y.2.2+ae c) <;> rfl
end Go.SH
namespace Go.SH
open IntKind (i64 u64 i32 u8)
def setW (k w:Nat):Nat:=if w.testBit k then w else w+2^k
def clrW (k w:Nat):Nat:=if w.testBit k then w-2^k else w
theorem BT (w k:Nat):∃p b r,w=2^k*(2*p+b)+r/\r<2^k/\b<2/\w.testBit k=decide (b=1):=by
 refine ⟨w / 2^k / 2,w / 2^k % 2,w % 2^k,?_,Nat.mod_lt _ (Nat.two_pow_pos k),Nat.mod_lt _ (by omega),?_⟩
 ·rw [Nat.div_add_mod (w / 2^k) 2,Nat.div_add_mod]
 ·rw [Nat.testBit_eq_decide_div_mod_eq]
theorem ge {p b r k:Nat} (hr:r<2^k) (hb:b<2) (i:Nat):(2^k*(2*p+b)+r).testBit i=if i<k then r.testBit i else if i=k then decide (b=1) else p.testBit (i-k-1):=by
 rw [Nat.testBit_two_pow_mul_add _ hr]
 split
 ·rfl
 ·rename_i h
  by_cases e:i=k
  ·subst e
   rw [if_pos rfl,Nat.sub_self,Nat.testBit_zero]
   congr 1
   rw [show (2*p+b) % 2=b from by omega]
  ·rw [if_neg e,show i-k=(i-k-1)+1 from by omega,Nat.testBit_succ,show (2*p+b) / 2=p from by omega,Nat.add_sub_cancel]
theorem G6 (w k:Nat):w ||| 2^k=setW k w:=by
 obtain ⟨p,b,r,hw,hr,hb,hk⟩:=BT w k
 refine Nat.eq_of_testBit_eq fun i=>?_
 rw [Nat.testBit_or,Nat.testBit_two_pow]
 unfold setW
 rw [hk]
 by_cases h1:b=1
 ·rw [if_pos (by simp [h1])]
  by_cases e:k=i
  ·subst e;rw [hk];simp [h1]
  ·simp [e]
 ·rw [if_neg (by simp [h1])]
  have e0:b=0:=by omega
  subst e0
  have:w+2^k=2^k*(2*p+1)+r:=by rw [hw];simp only [Nat.add_zero,Nat.mul_add,Nat.mul_one];omega
  rw [this,hw,ge hr (by omega),ge hr (by omega)]
  by_cases h2:i<k
  ·rw [if_pos h2,if_pos h2];simp;omega
  ·rw [if_neg h2,if_neg h2]
   by_cases h3:i=k
   ·subst h3;simp
   ·rw [if_neg h3,if_neg h3];simp;omega
theorem Ef {w k:Nat} (hw64:w<2^64) (hk64:k<64):w &&& (2^64-1-2^k)=clrW k w:=by
 obtain ⟨p,b,r,hw,hr,hb,hk⟩:=BT w k
 have h2k:2^k<2^64:=Nat.pow_lt_pow_right (by omega) hk64
 have hnot:∀i,(2^64-1-2^k).testBit i=(decide (i<64) && !decide (k=i)):=fun i=>by
  have:2^64-1-2^k=2^64-(2^k+1):=by omega
  rw [this,Nat.testBit_two_pow_sub_succ h2k,Nat.testBit_two_pow]
 refine Nat.eq_of_testBit_eq fun i=>?_
 rw [Nat.testBit_and,hnot]
 have hout:64<=i->w.testBit i=false:=fun h=>Nat.testBit_lt_two_pow (Nat.lt_of_lt_of_le hw64 (Nat.pow_le_pow_right (by omega) h))
 unfold clrW
 rw [hk]
 by_cases h1:b=1
 ·subst h1
  rw [if_pos (by simp)]
  have:w-2^k=2^k*(2*p+0)+r:=by rw [hw];simp only [Nat.add_zero,Nat.mul_add,Nat.mul_one];omega
  have hlt:i>=64->(w-2^k).testBit i=false:=fun h=>Nat.testBit_lt_two_pow (Nat.lt_of_lt_of_le (Nat.lt_of_le_of_lt (Nat.sub_le _ _) hw64) (Nat.pow_le_pow_right (by omega) h))
  by_cases hi:i<64
  ·rw [this]
   rw [hw,ge hr (by omega),ge hr (by omega)]
   by_cases h2:i<k
   ·rw [if_pos h2,if_pos h2]
    have:¬k=i:=by omega
    simp [hi,this]
   ·rw [if_neg h2,if_neg h2]
    by_cases h3:i=k
    ·subst h3;simp
    ·rw [if_neg h3,if_neg h3]
     have:¬k=i:=by omega
     simp [hi,this]
  ·rw [hout (by omega),hlt (by omega)];rfl
 ·rw [if_neg (by simp [h1])]
  by_cases hi:i<64
  ·by_cases e:k=i
   ·subst e;rw [hk];simp [h1]
   ·simp [hi,e]
  ·rw [hout (by omega)];rfl
theorem An {w k:Nat} (hw:w<2^64) (hk:k<64):setW k w<2^64:=by
 rw [<-G6]
 exact Nat.or_lt_two_pow hw (Nat.pow_lt_pow_right (by omega) hk)
theorem Jj (w k:Nat):clrW k w<=w:=by
 unfold clrW
 split
 ·exact Nat.sub_le _ _
 ·exact Nat.le_refl _
theorem EL:∀k:_root_.Fin 64,u64.wrap ((1:Int)*2^(min k.val 64))=((2^k.val:Nat):Int):=by decide +kernel
theorem ofI {m:Nat} (hm:m<2^64):(BitVec.ofInt IntKind.u64.bits (m:Int)).toNat=m:=by
 have hb:IntKind.u64.bits=64:=rfl
 rw [hb,BitVec.toNat_ofInt]
 have:(2:Nat)^64=18446744073709551616:=by decide
 omega
theorem wM {m:Nat} (hm:m<2^64):u64.wrap (m:Int)=(m:Int):=by
 have:(2:Nat)^64=18446744073709551616:=by decide
 rw [wL];omega
theorem wt {w k:Nat} (hw:w<2^64) (hk:k<64):az .or .u64 (w:Int) (u64.wrap ((1:Int)*2^(min k 64)))=((setW k w:Nat):Int):=by
 rw [EL ⟨k,hk⟩]
 unfold az
 simp only [BitVec.toNat_or]
 rw [ofI hw,ofI (Nat.pow_lt_pow_right (by omega) hk),G6,wM (An hw hk)]
theorem ud {w k:Nat} (hw:w<2^64) (hk:k<64):az .andNot .u64 (w:Int) (u64.wrap ((1:Int)*2^(min k 64)))=((clrW k w:Nat):Int):=by
 rw [EL ⟨k,hk⟩]
 unfold az
 simp only [BitVec.toNat_and,BitVec.toNat_not]
 rw [ofI hw,ofI (Nat.pow_lt_pow_right (by omega) hk)]
 have hb:IntKind.u64.bits=64:=rfl
 rw [hb,Ef hw hk,wM (Nat.lt_of_le_of_lt (Jj w k) hw)]
def upd (t:TabT) (c:Nat) (f:Nat->Nat):TabT:=
 if c<64 then ((f t.1.toNat:Nat),t.2.1,t.2.2.1,t.2.2.2) else if c<128 then (t.1,(f t.2.1.toNat:Nat),t.2.2.1,t.2.2.2)
 else if c<192 then (t.1,t.2.1,(f t.2.2.1.toNat:Nat),t.2.2.2) else (t.1,t.2.1,t.2.2.1,(f t.2.2.2.toNat:Nat))
def wd (t:TabT) (c:Nat):Nat:=if c<64 then t.1.toNat else if c<128 then t.2.1.toNat else if c<192 then t.2.2.1.toNat else t.2.2.2.toNat
def tbit (t:TabT) (c:Nat):Bool:=(wd t c).testBit (c % 64)
def setT (t:TabT) (c:Nat):TabT:=upd t c (setW (c % 64))
def clrT (t:TabT) (c:Nat):TabT:=upd t c (clrW (c % 64))
theorem u64N {w:Int} (h:u64R w):w.toNat<2^64/\((w.toNat:Nat):Int)=w:=by
 unfold u64R at h
 have:(2:Nat)^64=18446744073709551616:=by decide
 omega
theorem JH {t:TabT} (ht:bk t) (c:Nat):wd t c<2^64:=by
 obtain ⟨h1,h2,h3,h4⟩:=ht
 unfold wd
 split
 ·exact (u64N h1).1
 ·split
  ·exact (u64N h2).1
  ·split
   ·exact (u64N h3).1
   ·exact (u64N h4).1
theorem Ah {n:Nat} (h:n<2^64):u64R ((n:Nat):Int):=by
 have:(2:Nat)^64=18446744073709551616:=by decide
 unfold u64R;omega
theorem Ka {t:TabT} (ht:bk t) {c:Nat} {f:Nat->Nat} (hf:∀w,w<2^64->f w<2^64):bk (upd t c f):=by
 obtain ⟨h1,h2,h3,h4⟩:=ht
 unfold upd
 split
 ·exact ⟨Ah (hf _ (u64N h1).1),h2,h3,h4⟩
 ·split
  ·exact ⟨h1,Ah (hf _ (u64N h2).1),h3,h4⟩
  ·split
   ·exact ⟨h1,h2,Ah (hf _ (u64N h3).1),h4⟩
   ·exact ⟨h1,h2,h3,Ah (hf _ (u64N h4).1)⟩
theorem EB {t:TabT} (ht:bk t) (c:Nat):bk (setT t c):=Ka ht fun w hw=>An hw (Nat.mod_lt _ (by omega))
theorem uz (c:Nat):Int.tmod (c:Int) 64=((c % 64:Nat):Int):=by rw [Int.tmod_eq_emod_of_nonneg (by omega)];omega
theorem Aj {c:Nat} (h:c<200):i64.wrap (Int.tdiv (c:Int) 64)=((c / 64:Nat):Int):=by
 rw [Int.tdiv_eq_ediv_of_nonneg (by omega),w64];omega
theorem yn {c:Nat} (h:c<200):(c / 64=0/\c<64)\/(c / 64=1/\¬c<64/\c<128)\/(c / 64=2/\¬c<64/\¬c<128/\c<192)\/(c / 64=3/\¬c<64/\¬c<128/\¬c<192):=by omega
theorem Ie {t:TabT} (ht:bk t) {c:Nat} (hc:c<200):gx t (c:Int)=some (setT t c):=by
 obtain ⟨t1,t2,t3,t4⟩:=t
 obtain ⟨h1,h2,h3,h4⟩:=ht
 obtain ⟨l1,e1⟩:=u64N h1
 obtain ⟨l2,e2⟩:=u64N h2
 obtain ⟨l3,e3⟩:=u64N h3
 obtain ⟨l4,e4⟩:=u64N h4
 have hk:c % 64<64:=Nat.mod_lt _ (by omega)
 unfold gx setT upd
 simp only [wn,Option.bind_some,bt]
 rw [ao (by omega:0<=(c:Int)),ao (by omega:(c:Int)<200),uz,Aj hc]
 simp only [Bool.and_self,cond_true,Int.toNat_natCast]
 simp only at l1 e1 l2 e2 l3 e3 l4 e4
 rcases yn hc with ⟨q,r1⟩ | ⟨q,r1,r2⟩ | ⟨q,r1,r2,r3⟩ | ⟨q,r1,r2,r3⟩
 ·rw [q,if_pos r1]
  have:=wt l1 hk
  rw [e1] at this
  simp only [Int.natCast_zero,beq_self_eq_true,cond_true,this]
  rw [ac (by omega)];rfl
 ·rw [q,if_neg r1,if_pos r2]
  have:=wt l2 hk
  rw [e2] at this
  simp only [show (((1:Nat):Int)==0)=false from rfl,show (((1:Nat):Int)==1)=true from rfl,cond_true,cond_false,this]
  rw [ac (by omega)];rfl
 ·rw [q,if_neg r1,if_neg r2,if_pos r3]
  have:=wt l3 hk
  rw [e3] at this
  simp only [show (((2:Nat):Int)==0)=false from rfl,show (((2:Nat):Int)==1)=false from rfl,show (((2:Nat):Int)==2)=true from rfl,cond_true,cond_false,this]
  rw [ac (by omega)];rfl
 ·rw [q,if_neg r1,if_neg r2,if_neg r3]
  have:=wt l4 hk
  rw [e4] at this
  simp only [show (((3:Nat):Int)==0)=false from rfl,show (((3:Nat):Int)==1)=false from rfl,show (((3:Nat):Int)==2)=false from rfl,show (((3:Nat):Int)==3)=true from rfl,cond_true,cond_false,this]
  rw [ac (by omega)];rfl
theorem Ik {t:TabT} (ht:bk t) {c:Nat} (hc:c<200):gi t (c:Int)=some (clrT t c):=by
 obtain ⟨t1,t2,t3,t4⟩:=t
 obtain ⟨h1,h2,h3,h4⟩:=ht
 obtain ⟨l1,e1⟩:=u64N h1
 obtain ⟨l2,e2⟩:=u64N h2
 obtain ⟨l3,e3⟩:=u64N h3
 obtain ⟨l4,e4⟩:=u64N h4
 have hk:c % 64<64:=Nat.mod_lt _ (by omega)
 unfold gi clrT upd
 simp only [wn,Option.bind_some,bt]
 rw [ao (by omega:0<=(c:Int)),ao (by omega:(c:Int)<200),uz,Aj hc]
 simp only [Bool.and_self,cond_true,Int.toNat_natCast]
 simp only at l1 e1 l2 e2 l3 e3 l4 e4
 rcases yn hc with ⟨q,r1⟩ | ⟨q,r1,r2⟩ | ⟨q,r1,r2,r3⟩ | ⟨q,r1,r2,r3⟩
 ·rw [q,if_pos r1]
  have:=ud l1 hk
  rw [e1] at this
  simp only [Int.natCast_zero,beq_self_eq_true,cond_true,this]
  rw [ac (by omega)];rfl
 ·rw [q,if_neg r1,if_pos r2]
  have:=ud l2 hk
  rw [e2] at this
  simp only [show (((1:Nat):Int)==0)=false from rfl,show (((1:Nat):Int)==1)=true from rfl,cond_true,cond_false,this]
  rw [ac (by omega)];rfl
 ·rw [q,if_neg r1,if_neg r2,if_pos r3]
  have:=ud l3 hk
  rw [e3] at this
  simp only [show (((2:Nat):Int)==0)=false from rfl,show (((2:Nat):Int)==1)=false from rfl,show (((2:Nat):Int)==2)=true from rfl,cond_true,cond_false,this]
  rw [ac (by omega)];rfl
 ·rw [q,if_neg r1,if_neg r2,if_neg r3]
  have:=ud l4 hk
  rw [e4] at this
  simp only [show (((3:Nat):Int)==0)=false from rfl,show (((3:Nat):Int)==1)=false from rfl,show (((3:Nat):Int)==2)=false from rfl,show (((3:Nat):Int)==3)=true from rfl,cond_true,cond_false,this]
  rw [ac (by omega)];rfl
theorem Fk {a m:Nat} (ha:a % 64=m):∀(k i w:Nat),i+k=m->w<2^64->ap (bN (a:Int)) ((w:Int),(i:Int))=some (((w / 2^k:Nat)):Int)
 | 0,i,w,h,hw=>by
  have e:i=m:=by omega
  rw [aj]
  have:bN (a:Int) ((w:Int),(i:Int))=some (.inl (w:Int)):=by
   unfold bN
   rw [uz,ha,e,au (by omega:¬(m:Int)<(m:Int))];rfl
  rw [this,Nat.pow_zero,Nat.div_one]
 | k+1,i,w,h,hw=>by
  have hm:m<64:=by rw [<-ha];exact Nat.mod_lt _ (by omega)
  rw [aj]
  have:bN (a:Int) ((w:Int),(i:Int))=some (.inr (((w / 2:Nat):Int),((i+1:Nat):Int))):=by
   unfold bN
   have e2:Int.tdiv (w:Int) 2=((w / 2:Nat):Int):=by rw [Int.tdiv_eq_ediv_of_nonneg (by omega)];omega
   simp only [bt,Option.bind_some]
   rw [uz,ha,ao (by omega:(i:Int)<(m:Int)),e2,wM (Nat.lt_of_le_of_lt (Nat.div_le_self _ _) hw),ag (by omega)];rfl
  rw [this]
  have:=Fk ha k (i+1) (w / 2) (by omega) (Nat.lt_of_le_of_lt (Nat.div_le_self _ _) hw)
  refine Eq.trans this ?_
  rw [Nat.div_div_eq_div_mul,Nat.pow_succ,Nat.mul_comm 2]
theorem Ih {t:TabT} (ht:bk t) {c:Nat} (hc:c<200):gJ t (c:Int)=some (tbit t c):=by
 obtain ⟨t1,t2,t3,t4⟩:=t
 obtain ⟨h1,h2,h3,h4⟩:=ht
 obtain ⟨l1,e1⟩:=u64N h1
 obtain ⟨l2,e2⟩:=u64N h2
 obtain ⟨l3,e3⟩:=u64N h3
 obtain ⟨l4,e4⟩:=u64N h4
 have key:∀{w:Nat},w<2^64->((ap (bN (c:Int)) ((w:Int),0)).bind fun x6=>some ((Int.tmod x6 2)==1))=some (w.testBit (c % 64)):=fun {w} hw=>by
  have:=Fk (a:=c) rfl (c % 64) 0 w (by omega) hw
  have this':ap (bN (c:Int)) ((w:Int),0)=some (((w / 2^(c % 64):Nat)):Int):=this
  rw [this']
  simp only [Option.bind_some,Option.some.injEq]
  rw [Int.tmod_eq_emod_of_nonneg (Int.natCast_nonneg _),Nat.testBit_eq_decide_div_mod_eq]
  generalize w / 2^(c % 64)=q
  rw [Bool.eq_iff_iff];simp;omega
 unfold gJ tbit wd
 rw [au (by omega:¬(c:Int)<0),au (by omega:¬(c:Int)>199),Aj hc]
 simp only [cond_false,Option.bind_some]
 simp only at l1 e1 l2 e2 l3 e3 l4 e4
 rcases yn hc with ⟨q,r1⟩ | ⟨q,r1,r2⟩ | ⟨q,r1,r2,r3⟩ | ⟨q,r1,r2,r3⟩
 ·rw [q,if_pos r1,<-key l1,e1];rfl
 ·rw [q,if_neg r1,if_pos r2,<-key l2,e2];rfl
 ·rw [q,if_neg r1,if_neg r2,if_pos r3,<-key l3,e3];rfl
 ·rw [q,if_neg r1,if_neg r2,if_neg r3,<-key l4,e4];rfl
theorem z6 {a m:Nat} (ha:a % 64=m):∀(k i:Nat),i+k=m->ap (bR (a:Int)) (((2^i:Nat):Int),(i:Int))=some (((2^m:Nat)):Int)
 | 0,i,h=>by
  have e:i=m:=by omega
  rw [aj]
  have:bR (a:Int) (((2^i:Nat):Int),(i:Int))=some (.inl ((2^i:Nat):Int)):=by
   unfold bR
   rw [uz,ha,e,au (by omega:¬(m:Int)<(m:Int))];rfl
  rw [this,e]
 | k+1,i,h=>by
  have hm:m<64:=by rw [<-ha];exact Nat.mod_lt _ (by omega)
  rw [aj]
  have hp:2^(i+1)<2^64:=Nat.pow_lt_pow_right (by omega) (by omega)
  have:bR (a:Int) (((2^i:Nat):Int),(i:Int))=some (.inr (((2^(i+1):Nat):Int),((i+1:Nat):Int))):=by
   unfold bR
   have e2:((2^i:Nat):Int)*2=((2^(i+1):Nat):Int):=by rw [Nat.pow_succ];omega
   simp only [bt,Option.bind_some]
   rw [uz,ha,ao (by omega:(i:Int)<(m:Int)),e2,wM hp,ag (by omega)];rfl
  rw [this]
  exact z6 ha k (i+1) (by omega)
theorem Fh {t:TabT} (ht:bk t) {c:Nat} (hc:c<200) (b:Bool):dY t (c:Int) b=some (bif b then setT t c else clrT t c):=by
 have hI:=Ih ht hc
 have hwl:=JH ht c
 obtain ⟨t1,t2,t3,t4⟩:=t
 obtain ⟨h1,h2,h3,h4⟩:=ht
 obtain ⟨l1,e1⟩:=u64N h1
 obtain ⟨l2,e2⟩:=u64N h2
 obtain ⟨l3,e3⟩:=u64N h3
 obtain ⟨l4,e4⟩:=u64N h4
 have hk:c % 64<64:=Nat.mod_lt _ (by omega)
 have hloop:ap (bR (c:Int)) (1,0)=some (((2^(c % 64):Nat)):Int):=z6 (a:=c) rfl (c % 64) 0 (by omega)
 unfold dY
 rw [hI,hloop]
 simp only [bt]
 simp only [Option.bind_some,bto]
 rw [au (by omega:¬(c:Int)<0),au (by omega:¬(c:Int)>199),Aj hc]
 simp only [Bool.false_or]
 have ubits:∀{w:Nat},w<2^64->w.testBit (c % 64)=false->u64.wrap ((w:Int)+((2^(c % 64):Nat):Int))=((setW (c % 64) w:Nat):Int):=fun {w} hw hb=>by
  have:=An hw hk
  unfold setW at *
  rw [hb] at this ⊢
  simp only [Bool.false_eq_true,if_false] at this ⊢
  rw [<-Int.natCast_add,wM this]
 have cbits:∀{w:Nat},w<2^64->w.testBit (c % 64)=true->u64.wrap ((w:Int)-((2^(c % 64):Nat):Int))=((clrW (c % 64) w:Nat):Int):=fun {w} hw hb=>by
  have hle:2^(c % 64)<=w:=Nat.ge_two_pow_of_testBit hb
  unfold clrW
  rw [hb]
  simp only [if_true]
  rw [<-Int.natCast_sub hle,wM (Nat.lt_of_le_of_lt (Nat.sub_le _ _) hw)]
 have same:∀(f:Nat->Nat),f (wd (t1,t2,t3,t4) c)=wd (t1,t2,t3,t4) c->upd (t1,t2,t3,t4) c f=(t1,t2,t3,t4):=fun f hf=>by
  unfold upd wd at *
  split
  ·rw [if_pos (by assumption)] at hf;rw [hf,e1]
  ·rename_i q1;rw [if_neg q1] at hf
   split
   ·rw [if_pos (by assumption)] at hf;rw [hf,e2]
   ·rename_i q2;rw [if_neg q2] at hf
    split
    ·rw [if_pos (by assumption)] at hf;rw [hf,e3]
    ·rename_i q3;rw [if_neg q3] at hf;rw [hf,e4]
 cases hb:tbit (t1,t2,t3,t4) c with
 | true=>
  cases b with
  | true=>
   have:setT (t1,t2,t3,t4) c=(t1,t2,t3,t4):=same _ (by unfold setW;rw [show (wd (t1,t2,t3,t4) c).testBit (c % 64)=true from hb];simp)
   simp only [beq_self_eq_true,cond_true,this]
  | false=>
   simp only [show (true==false)=false from rfl,cond_false,cond_true]
   unfold tbit wd at hb
   unfold clrT upd
   rcases yn hc with ⟨q,r1⟩ | ⟨q,r1,r2⟩ | ⟨q,r1,r2,r3⟩ | ⟨q,r1,r2,r3⟩
   ·rw [if_pos r1] at hb;have:=cbits l1 hb;rw [e1] at this
    rw [q,if_pos r1,<-this];rfl
   ·rw [if_neg r1,if_pos r2] at hb;have:=cbits l2 hb;rw [e2] at this
    rw [q,if_neg r1,if_pos r2,<-this];rfl
   ·rw [if_neg r1,if_neg r2,if_pos r3] at hb;have:=cbits l3 hb;rw [e3] at this
    rw [q,if_neg r1,if_neg r2,if_pos r3,<-this];rfl
   ·rw [if_neg r1,if_neg r2,if_neg r3] at hb;have:=cbits l4 hb;rw [e4] at this
    rw [q,if_neg r1,if_neg r2,if_neg r3,<-this];rfl
 | false=>
  cases b with
  | false=>
   have:clrT (t1,t2,t3,t4) c=(t1,t2,t3,t4):=same _ (by unfold clrW;rw [show (wd (t1,t2,t3,t4) c).testBit (c % 64)=false from hb];simp)
   simp only [beq_self_eq_true,cond_true,cond_false,this]
  | true=>
   simp only [show (false==true)=false from rfl,cond_false,cond_true]
   unfold tbit wd at hb
   unfold setT upd
   rcases yn hc with ⟨q,r1⟩ | ⟨q,r1,r2⟩ | ⟨q,r1,r2,r3⟩ | ⟨q,r1,r2,r3⟩
   ·rw [if_pos r1] at hb;have:=ubits l1 hb;rw [e1] at this
    rw [q,if_pos r1,<-this];rfl
   ·rw [if_neg r1,if_pos r2] at hb;have:=ubits l2 hb;rw [e2] at this
    rw [q,if_neg r1,if_pos r2,<-this];rfl
   ·rw [if_neg r1,if_neg r2,if_pos r3] at hb;have:=ubits l3 hb;rw [e3] at this
    rw [q,if_neg r1,if_neg r2,if_pos r3,<-this];rfl
   ·rw [if_neg r1,if_neg r2,if_neg r3] at hb;have:=ubits l4 hb;rw [e4] at this
    rw [q,if_neg r1,if_neg r2,if_neg r3,<-this];rfl
end Go.SH
namespace Go.SH
open IntKind (i64 u64 i32 u8)
def widB (from' to:Int) (c:Nat):Bool:=decide ((c:Int)>=from')&&(decide ((c:Int)<to)&&decide (c % 8=0))
def widF (from' to:Int):Nat->TabT->TabT
 | 0,t=>t
 | k+1,t=>widF from' to k (bif widB from' to (199-k) then setT t (199-k) else t)
theorem uy (from' to:Int):∀(k:Nat) (t:TabT),k<=199->(∀c,199-k<c->c<200->widB from' to c=false)->widF from' to k t=t
 | 0,t,_,_=>rfl
 | k+1,t,hk,h=>by
  unfold widF
  rw [h (199-k) (by omega) (by omega)]
  exact uy from' to k t (by omega) (fun c h1 h2=>h c (by omega) h2)
theorem qY (from' to:Int):∀(k c:Nat) (t:TabT),c+k=200->1<=c->bk t->ap (bE from' to) ((c:Int),t.1,t.2.1,t.2.2.1,t.2.2.2)=some (widF from' to k t)
 | 0,c,t,h,h1,ht=>by
  rw [aj]
  have:bE from' to ((c:Int),t.1,t.2.1,t.2.2.1,t.2.2.2)=some (.inl t):=by
   unfold bE
   rw [au (by omega:¬(c:Int)<200)];rfl
  rw [this];rfl
 | k+1,c,t,h,h1,ht=>by
  have hc:c<200:=by omega
  have e199:199-k=c:=by omega
  have hW:dY (t.1,t.2.1,t.2.2.1,t.2.2.2) (c:Int) true=some (setT t c):=Fh ht hc true
  have hb:(decide ((c:Int)>=from')&&(decide ((c:Int)<to)&&(Int.tmod (c:Int) 8==0)))=widB from' to c:=by
   unfold widB
   congr 2
   rw [Int.tmod_eq_emod_of_nonneg (by omega),Bool.eq_iff_iff];simp;omega
  have:bE from' to ((c:Int),t.1,t.2.1,t.2.2.1,t.2.2.2)=some (.inr (((c+1:Nat):Int),(bif widB from' to c then setT t c else t).1,(bif widB from' to c then setT t c else t).2.1,(bif widB from' to c then setT t c else t).2.2.1,(bif widB from' to c then setT t c else t).2.2.2)):=by
   unfold bE
   simp only [bt]
   simp only [Option.bind_some,bt2,hb]
   rw [ao (by omega:(c:Int)<200),hW,ag (by omega)]
   cases widB from' to c <;> rfl
  rw [aj,this]
  unfold widF
  rw [e199]
  exact qY from' to k (c+1) _ (by omega) (by omega) (by cases widB from' to c;exact ht;exact EB ht c)
theorem vE {t:TabT} (ht:bk t) (from' to:Int):fX t from' to=some (widF from' to 199 t):=by
 unfold fX
 have:ap (bE from' to) (1,t.1,t.2.1,t.2.2.1,t.2.2.2)=some (widF from' to 199 t):=qY from' to 199 1 t (by omega) (by omega) ht
 rw [this];rfl
theorem J9 {from' to:Int} {j:Nat} (hj:1<=j) (h:8*j+8<=200) (t:TabT):widF from' to (200-8*j) t=widF from' to (200-8*(j+1)) (bif widB from' to (8*j) then setT t (8*j) else t):=by
 obtain ⟨k,hk⟩:∃k,200-8*j=k+8:=⟨200-8*j-8,by omega⟩
 have no:∀i,i<7->widB from' to (199-(k+i))=false:=fun i hi=>by
  have:¬(199-(k+i)) % 8=0:=by omega
  unfold widB
  simp [this]
 rw [hk,show 200-8*(j+1)=k from by omega]
 simp only [widF]
 rw [show 199-(k+7)=8*j from by omega]
 rw [show 199-k=199-(k+0) from rfl,no 0 (by omega),no 1 (by omega),no 2 (by omega),no 3 (by omega),no 4 (by omega),no 5 (by omega),no 6 (by omega)]
 rfl
theorem re (from' to:Int):∀(m j:Nat) (t:TabT),j+m=25->1<=j->bk t->ap (aY to from') (((8*j:Nat):Int),t.1,t.2.1,t.2.2.1,t.2.2.2)=some (widF from' to (200-8*j) t)
 | m,j,t,hm,hj,ht=>by
  by_cases h:((8*j:Nat):Int)<(if (200:Int)<to then (200:Int) else to)
  ·have h2:8*j<200/\((8*j:Nat):Int)<to:=by split at h <;> omega
   cases m with
   | zero=>omega
   | succ m=>
    have hw:i64.wrap (((8*j:Nat):Int)+8)=((8*(j+1):Nat):Int):=by rw [ag (by omega)];omega
    rw [J9 hj (by omega)]
    have hS:gx (t.1,t.2.1,t.2.2.1,t.2.2.2) ((8*j:Nat):Int)=some (setT t (8*j)):=Ie ht h2.1
    have hB:widB from' to (8*j)=decide (((8*j:Nat):Int)>=from'):=by
     unfold widB
     rw [ao h2.2,ao (by omega:8*j % 8=0)];simp
    have hs:aY to from' (((8*j:Nat):Int),t.1,t.2.1,t.2.2.1,t.2.2.2)=some (.inr (((8*(j+1):Nat):Int),(bif widB from' to (8*j) then setT t (8*j) else t).1,(bif widB from' to (8*j) then setT t (8*j) else t).2.1,(bif widB from' to (8*j) then setT t (8*j) else t).2.2.1,(bif widB from' to (8*j) then setT t (8*j) else t).2.2.2)):=by
     unfold aY
     simp only [bt,Option.bind_some]
     rw [ao h,hS,hw,hB]
     cases decide (((8*j:Nat):Int)>=from') <;> rfl
    rw [aj,hs]
    exact re from' to m (j+1) _ (by omega) (by omega) (by cases widB from' to (8*j);exact ht;exact EB ht _)
  ·have hs:aY to from' (((8*j:Nat):Int),t.1,t.2.1,t.2.2.1,t.2.2.2)=some (.inl t):=by
    unfold aY
    simp only [bt,Option.bind_some]
    rw [au h]
    rfl
   rw [aj,hs,uy from' to _ t (by omega) (fun c h1 h2=>by
    unfold widB
    have:¬(c:Int)<to:=by split at h <;> omega
    rw [au this];simp)]
theorem CY {t:TabT} (ht:bk t) (from' to:Int):cx t from' to=some (widF from' to 199 t):=by
 unfold cx
 have h1:=re from' to 24 1 t (by omega) (by omega) ht
 have h1':ap (aY to from') (8,t.1,t.2.1,t.2.2.1,t.2.2.2)=some (widF from' to 192 t):=h1
 rw [h1']
 simp only [Option.bind_some,Option.some.injEq]
 have no:∀k,192<=k->k<199->widF from' to (k+1) t=widF from' to k t:=fun k h1 h2=>by
  have h8:¬(199-k) % 8=0:=by omega
  have:widB from' to (199-k)=false:=by unfold widB;simp [h8]
  unfold widF
  rw [this]
  cases k <;> rfl
 exact ((no 198 (by omega) (by omega)).trans ((no 197 (by omega) (by omega)).trans ((no 196 (by omega) (by omega)).trans ((no 195 (by omega) (by omega)).trans ((no 194 (by omega) (by omega)).trans ((no 193 (by omega) (by omega)).trans (no 192 (by omega) (by omega)))))))).symm
theorem Iy:∀z:_root_.Fin 64,tzV (u64.wrap (((2^z.val:Nat):Int)*285870213051353865))=some (z.val:Int):=by decide +kernel
theorem KI {w z m:Nat} (hw:w=2^z*(2*m+1)) (h64:w<2^64):w &&& (2^64-w)=2^z:=by
 have hz:z<64:=by
  rcases Nat.lt_or_ge z 64 with h | h
  ·exact h
  ·have h1:2^64<=2^z:=Nat.pow_le_pow_right (by omega) h
   have h2:2^z*1<=2^z*(2*m+1):=Nat.mul_le_mul_left _ (by omega)
   omega
 have hpos:0<2^z:=Nat.two_pow_pos z
 have hw1:w-1=2^z*(2*m+0)+(2^z-1):=by rw [hw];simp only [Nat.add_zero,Nat.mul_add,Nat.mul_one];omega
 have hw0:w=2^z*(2*m+1)+0:=by omega
 have hwpos:0<w:=by rw [hw];exact Nat.mul_pos hpos (by omega)
 have e:2^64-w=2^64-((w-1)+1):=by omega
 refine Nat.eq_of_testBit_eq fun i=>?_
 rw [Nat.testBit_and,e,Nat.testBit_two_pow_sub_succ (by omega),Nat.testBit_two_pow]
 by_cases hi:i<64
 ·rw [hw1]
  conv=>lhs;lhs;rw [hw0]
  rw [ge hpos (by omega),ge (by omega:2^z-1<2^z) (by omega)]
  by_cases h2:i<z
  ·rw [if_pos h2,if_pos h2]
   have:¬z=i:=by omega
   simp [this]
  ·rw [if_neg h2,if_neg h2]
   by_cases h3:i=z
   ·subst h3;simp [hi]
   ·rw [if_neg h3,if_neg h3]
    have:¬z=i:=by omega
    simp [this,hi]
 ·have:¬z=i:=by omega
  simp [hi,this]
theorem Ix {z:Nat} (h:z<64):tzV (u64.wrap (((2^z:Nat):Int)*285870213051353865))=some (z:Int):=Iy ⟨z,h⟩
theorem K8 {w z:Int} (h:(w==0)=false) (h1:tzV (tzX w)=some z):bn w=some z:=by
 rw [JI,bt,h1,h];rfl
theorem Kc {w a:Int} (h:tzA w=a):tzX w=u64.wrap (a*285870213051353865):=by unfold tzX;rw [h]
theorem Gz {w z m:Nat} (hw:w=2^z*(2*m+1)) (h64:w<2^64):z<64/\bn (w:Int)=some (z:Int):=by
 have hpos:0<2^z:=Nat.two_pow_pos z
 have hwpos:0<w:=by rw [hw];exact Nat.mul_pos hpos (by omega)
 have hz:z<64:=by
  rcases Nat.lt_or_ge z 64 with h | h
  ·exact h
  ·have h1:2^64<=2^z:=Nat.pow_le_pow_right (by omega) h
   have h2:2^z*1<=2^z*(2*m+1):=Nat.mul_le_mul_left _ (by omega)
   omega
 refine ⟨hz,?_⟩
 have h0:((w:Int)==0)=false:=by simp;omega
 have e64:(2:Nat)^64=18446744073709551616:=by decide
 have hneg:u64.wrap ((0:Int)-(w:Int))=((2^64-w:Nat):Int):=by rw [wL];omega
 have hA:tzA (w:Int)=((2^z:Nat):Int):=by
  unfold tzA az
  rw [hneg]
  simp only [BitVec.toNat_and]
  rw [ofI h64,ofI (by omega:2^64-w<2^64),KI hw h64,wM (Nat.pow_lt_pow_right (by omega) hz)]
 refine K8 h0 ?_
 rw [Kc hA]
 exact Ix hz
theorem Ha:∀(n:Nat),0<n->∃z m,n=2^z*(2*m+1):=by
 intro n
 induction n using Nat.strongRecOn with
 | _ n ih=>
  intro hn
  by_cases h:n % 2=1
  ·exact ⟨0,n / 2,by rw [Nat.pow_zero,Nat.one_mul];omega⟩
  ·obtain ⟨z,m,hz⟩:=ih (n / 2) (by omega) (by omega)
   exact ⟨z+1,m,by rw [Nat.pow_succ,Nat.mul_comm (2^z) 2,Nat.mul_assoc,<-hz];omega⟩
theorem nX {p:Nat->Bool}:∀(v a n:Nat),v<=n->(∀i,i<v->p (a+i)=false)->(List.range' a n).filter p=(List.range' (a+v) (n-v)).filter p
 | 0,a,n,_,_=>rfl
 | v+1,a,n,h,hp=>by
  cases n with
  | zero=>omega
  | succ n=>
   rw [List.range'_succ,List.filter_cons,if_neg (by rw [show a=a+0 from rfl,hp 0 (by omega)];simp),nX v (a+1) n (by omega) (fun i hi=>by rw [show a+1+i=a+(i+1) from by omega];exact hp (i+1) (by omega))]
   congr 2 <;> omega
def jo (t:TabT) (a:Nat):List Int:=((List.range' a (200-a)).filter (tbit t)).map fun (c:Nat)=>(c:Int)
def wdi (t:TabT) (i:Nat):Nat:=wd t (64*i)
theorem Et {t:TabT} {i u:Nat} (hi:i<4) (hu:u<64):tbit t (64*i+u)=(wdi t i).testBit u:=by
 unfold tbit wdi
 have e1:(64*i+u) % 64=u:=by omega
 have e2:wd t (64*i+u)=wd t (64*i):=by
  unfold wd
  rcases (show i=0\/i=1\/i=2\/i=3 from by omega) with rfl | rfl | rfl | rfl
  ·rw [if_pos (by omega),if_pos (by omega)]
  ·rw [if_neg (by omega),if_pos (by omega),if_neg (by omega),if_pos (by omega)]
  ·rw [if_neg (by omega),if_neg (by omega),if_pos (by omega),if_neg (by omega),if_neg (by omega),if_pos (by omega)]
  ·rw [if_neg (by omega),if_neg (by omega),if_neg (by omega),if_neg (by omega),if_neg (by omega),if_neg (by omega)]
 rw [e1,e2]
theorem pr {t:TabT} (ht:bk t):∀(k i j:Nat),i<=3->j<=64->(65-j)+(3-i)*66<=k->64*i+j<=256 ->
  lg bn vA wU [t.1,t.2.1,t.2.2.1,t.2.2.2] k i ((2^j*(wdi t i / 2^j):Nat):Int)=some (jo t (64*i+j))
 | 0,i,j,hi,hj,hk,_=>by omega
 | k+1,i,j,hi,hj,hk,_=>by
  have hW:wdi t i<2^64:=JH ht _
  have hle:2^j*(wdi t i / 2^j)<=wdi t i:=Nat.mul_div_le _ _
  unfold lg
  by_cases h0:wdi t i / 2^j=0
  ·rw [if_pos (by rw [h0];simp)]
   have hz:∀u,j<=u->u<64->tbit t (64*i+u)=false:=fun u h1 h2=>by
    rw [Et (by omega) h2]
    have:(wdi t i / 2^j).testBit (u-j)=(wdi t i).testBit u:=by rw [Nat.testBit_div_two_pow];congr 1;omega
    rw [<-this,h0];simp
   by_cases h3:i=3
   ·subst h3
    have:([t.1,t.2.1,t.2.2.1,t.2.2.2]:List Int)[3+1]?=none:=rfl
    rw [this]
    unfold jo
    by_cases hj8:64*3+j<=200
    ·rw [nX (200-(64*3+j)) _ _ (by omega) (fun u hu=>by rw [Nat.add_assoc];exact hz (j+u) (by omega) (by omega)),Nat.sub_self];rfl
    ·rw [show 200-(64*3+j)=0 from by omega];rfl
   ·have hw':([t.1,t.2.1,t.2.2.1,t.2.2.2]:List Int)[i+1]?=some ((2^0*(wdi t (i+1) / 2^0):Nat):Int):=by
     obtain ⟨h1,h2,h3',h4⟩:=ht
     rw [Nat.pow_zero,Nat.one_mul,Nat.div_one]
     rcases (show i=0\/i=1\/i=2 from by omega) with rfl | rfl | rfl
     ·show some t.2.1=some ((t.2.1.toNat:Nat):Int);rw [(u64N h2).2]
     ·show some t.2.2.1=some ((t.2.2.1.toNat:Nat):Int);rw [(u64N h3').2]
     ·show some t.2.2.2=some ((t.2.2.2.toNat:Nat):Int);rw [(u64N h4).2]
    rw [hw']
    simp only
    rw [pr ht k (i+1) 0 (by omega) (by omega) (by omega) (by omega)]
    unfold jo
    rw [nX (64-j) (64*i+j) _ (by omega) (fun u hu=>by rw [Nat.add_assoc];exact hz (j+u) (by omega) (by omega))]
    congr 4 <;> omega
  ·obtain ⟨v,m,hv⟩:=Ha (wdi t i / 2^j) (Nat.pos_of_ne_zero h0)
   have hw:2^j*(wdi t i / 2^j)=2^(j+v)*(2*m+1):=by rw [hv,Nat.pow_add,Nat.mul_assoc]
   rw [hw] at hle ⊢
   have hpos:0<2^(j+v)*(2*m+1):=Nat.mul_pos (Nat.two_pow_pos _) (by omega)
   obtain ⟨hz,htz⟩:=Gz (w:=2^(j+v)*(2*m+1)) rfl (Nat.lt_of_le_of_lt hle hW)
   have hne:¬((2^(j+v)*(2*m+1):Nat):Int)=0:=by omega
   rw [if_neg hne]
   rw [htz]
   simp only [Option.bind_some]
   have hat:vA (i:Int) ((j+v:Nat):Int)=((64*i+(j+v):Nat):Int):=by
    unfold vA
    rw [ag (x:=64*(i:Int)) (by omega),ag (by omega)];omega
   rw [hat]
   have hbit:∀u,u<64-j->tbit t (64*i+j+u)=(2^v*(2*m+1)+0).testBit u:=fun u hu=>by
    rw [Nat.add_assoc,Et (by omega) (by omega),Nat.add_zero,<-hv,Nat.testBit_div_two_pow]
    congr 1;omega
   have hfalse:∀u,u<v->tbit t (64*i+j+u)=false:=fun u hu=>by
    rw [hbit u (by omega),ge (Nat.two_pow_pos v) (by omega),if_pos hu];simp
   have htrue:tbit t (64*i+j+v)=true:=by
    rw [hbit v (by omega),ge (Nat.two_pow_pos v) (by omega),if_neg (by omega),if_pos rfl];simp
   by_cases h200:200<=64*i+(j+v)
   ·rw [if_pos (by omega)]
    unfold jo
    by_cases hj8:64*i+j<=200
    ·rw [nX (200-(64*i+j)) _ _ (by omega) (fun u hu=>hfalse u (by omega)),Nat.sub_self];rfl
    ·rw [show 200-(64*i+j)=0 from by omega];rfl
   ·rw [if_neg (by omega)]
    have hnx:wU ((2^(j+v)*(2*m+1):Nat):Int)=((2^(j+v+1)*(wdi t i / 2^(j+v+1)):Nat):Int):=by
     have e64:(2:Nat)^64=18446744073709551616:=by decide
     rw [Hb hpos (by rw [<-e64];exact Nat.lt_of_le_of_lt hle hW)]
     congr 1
     have hm:wdi t i / 2^(j+v+1)=m:=by
      rw [show j+v+1=j+(v+1) from by omega,Nat.pow_add,<-Nat.div_div_eq_div_mul,hv,Nat.pow_succ,<-Nat.div_div_eq_div_mul,Nat.mul_div_cancel_left _ (Nat.two_pow_pos v)]
      omega
     rw [hm]
     have hp2:0<2^(j+v):=Nat.two_pow_pos _
     have hsub:2^(j+v)*(2*m+1)-1=2^(j+v)*(2*m+0)+(2^(j+v)-1):=by simp only [Nat.add_zero,Nat.mul_add,Nat.mul_one];omega
     have hself:2^(j+v)*(2*m+1)=2^(j+v)*(2*m+1)+0:=rfl
     have hres:2^(j+v+1)*m=2^(j+v)*(2*m+0)+0:=by rw [Nat.pow_succ];simp only [Nat.add_zero];rw [Nat.mul_assoc]
     rw [hsub,hres]
     refine Nat.eq_of_testBit_eq fun q=>?_
     rw [Nat.testBit_and]
     conv=>lhs;lhs;rw [hself]
     rw [ge hp2 (by omega),ge (by omega:2^(j+v)-1<2^(j+v)) (by omega),ge hp2 (by omega)]
     by_cases h2:q<j+v
     ·simp [h2]
     ·by_cases h3:q=j+v
      ·simp [h3]
      ·simp [h2,h3]
    rw [hnx,pr ht k i (j+v+1) hi (by omega) (by omega) (by omega)]
    simp only [Option.map_some,Option.some.injEq]
    unfold jo
    rw [nX v (64*i+j) (200-(64*i+j)) (by omega) hfalse]
    rw [show 200-(64*i+j)-v=(200-(64*i+(j+v+1)))+1 from by omega,List.range'_succ,List.filter_cons,if_pos htrue]
    rw [List.map_cons,Nat.add_assoc (64*i) j v]
    rfl
theorem vz {t:TabT} (ht:bk t):jB t=some (jo t 0):=by
 unfold jB outF
 simp only [List.getElem?_cons_zero]
 have:=pr ht 300 0 0 (by omega) (by omega) (by omega) (by omega)
 rw [Nat.pow_zero,Nat.one_mul,Nat.div_one] at this
 have e:((wdi t 0:Nat):Int)=t.1:=(u64N ht.1).2
 rw [e] at this
 exact this
end Go.SH
namespace Go.SH
structure Sc where
 rows:Int
 cols:Int
 grid:aA
 main:aA
 row:Int
 col:Int
 late:Bool
 pen:PenT
 top:Int
 bottom:Int
 modes:Int
 sv0:pg
 sv1:pg
 tabs:TabT
 title:List Int
def Sc.t (s:Sc):ScrT:=(s.rows,s.cols,s.grid,s.main,s.row,s.col,s.late,s.pen,s.top,s.bottom,s.modes,(s.sv0,s.sv1),s.tabs,s.title)
def Sc.of (s:ScrT):Sc:=⟨s.1,s.2.1,s.2.2.1,s.2.2.2.1,s.2.2.2.2.1,s.2.2.2.2.2.1,s.2.2.2.2.2.2.1,s.2.2.2.2.2.2.2.1,s.2.2.2.2.2.2.2.2.1,s.2.2.2.2.2.2.2.2.2.1,s.2.2.2.2.2.2.2.2.2.2.1,s.2.2.2.2.2.2.2.2.2.2.2.1.1,s.2.2.2.2.2.2.2.2.2.2.2.1.2,s.2.2.2.2.2.2.2.2.2.2.2.2.1,s.2.2.2.2.2.2.2.2.2.2.2.2.2⟩
def Sc.f (s:Sc):z8:=(s.grid,s.main,s.title,s.rows,s.cols,s.row,s.col,s.late,s.pen.1,s.pen.2.1,s.pen.2.2,s.top,s.bottom,s.modes,
 s.sv0.1,s.sv0.2.1,s.sv0.2.2.1.1,s.sv0.2.2.1.2.1,s.sv0.2.2.1.2.2,s.sv0.2.2.2.1,s.sv0.2.2.2.2,
 s.sv1.1,s.sv1.2.1,s.sv1.2.2.1.1,s.sv1.2.2.1.2.1,s.sv1.2.2.1.2.2,s.sv1.2.2.2.1,s.sv1.2.2.2.2,s.tabs.1,s.tabs.2.1,s.tabs.2.2.1,s.tabs.2.2.2)
theorem Gx (s:Sc):Af s.f=s.t:=rfl
def chgS (ch:ChT) (s:Sc):Option z8:=cW ch s.rows s.cols s.row s.col s.late s.pen.1 s.pen.2.1 s.pen.2.2 s.top s.bottom s.modes
 s.sv0.1 s.sv0.2.1 s.sv0.2.2.1.1 s.sv0.2.2.1.2.1 s.sv0.2.2.1.2.2 s.sv0.2.2.2.1 s.sv0.2.2.2.2
 s.sv1.1 s.sv1.2.1 s.sv1.2.2.1.1 s.sv1.2.2.1.2.1 s.sv1.2.2.1.2.2 s.sv1.2.2.2.1 s.sv1.2.2.2.2 s.tabs.1 s.tabs.2.1 s.tabs.2.2.1 s.tabs.2.2.2 s.grid s.main s.title
theorem KU (ch:ChT) (s:Sc):chgP ch s.t=chgS ch s:=rfl
structure OkS (s:Sc) (R C:Nat):Prop where
 hr:s.rows=R
 hc:s.cols=C
 sz:szR R C
 g:gok s.grid R C
 m:(aU s.modes=true/\gok s.main R C)\/(aU s.modes=false/\s.main=[])
 row:0<=s.row/\s.row<R
 col:0<=s.col/\s.col<C
 late:s.late=true->s.col=(C:Int)-1
 top:0<=s.top/\s.top<R
 bot:0<=s.bottom/\s.bottom<R
 tb:s.top<s.bottom\/R<=1
 md:0<=s.modes/\s.modes<=255
 pen:aO s.pen=true
 s0:dT s.sv0=true
 s1:dT s.sv1=true
 ti:cF s.title=true
 tabs:bk s.tabs
theorem OkS.env {s:Sc} {R C:Nat} (h:OkS s R C):EnvS R C s.top s.bottom s.pen:=⟨h.sz,h.top.1,by have:=h.tb;have:=h.top;have:=h.bot;omega,h.bot.2,h.pen⟩
theorem OkS.inG {s:Sc} {R C:Nat} (h:OkS s R C):inG R C (s.grid,s.row,s.col):=⟨h.g,h.row,h.col⟩
theorem OkS.may {s:Sc} {R C:Nat} (h:OkS s R C):rQ s.t=true:=by
 have hg:jF s.grid s.rows s.cols=true:=w5.2 ⟨R,C,h.hr,h.hc,h.sz,h.g⟩
 have hsz:=h.sz
 unfold szR at hsz
 have h1:=h.row;have h2:=h.col;have h3:=h.top;have h4:=h.bot;have h5:=h.tb;have h6:=h.md;have h7:=h.late
 have hm:(aU s.modes==decide (0<s.main.length))=true/\(!aU s.modes||jF s.main s.rows s.cols)=true:=by
  rcases h.m with ⟨m1,m2⟩ | ⟨m1,m2⟩
  ·have:jF s.main s.rows s.cols=true:=w5.2 ⟨R,C,h.hr,h.hc,h.sz,m2⟩
   rw [m1,this,ao (by rw [m2.1];omega)]
   exact ⟨rfl,rfl⟩
  ·rw [m1,m2];exact ⟨rfl,rfl⟩
 have hr:=h.hr;have hc:=h.hc
 unfold rQ Sc.t
 simp only [hg,hm.1,hm.2,h.pen,h.s0,h.s1,h.ti,Bool.and_self,Bool.true_and,Bool.and_true]
 rw [ao (by omega:0<=s.row/\s.row<s.rows),ao (by omega:0<=s.top/\s.top<s.rows),ao (by omega:0<=s.bottom/\s.bottom<s.rows),ao h2.1,ao (by omega:s.col<s.cols),ao h6.1,ao h6.2]
 have e1:(!s.late||decide (s.cols-1<=s.col))=true:=by
  cases hl:s.late with
  | false=>rfl
  | true=>have:=h7 hl;rw [ao (by omega)];rfl
 have e2:(!decide (s.bottom<=s.top)||decide (s.rows<=1))=true:=by
  rcases h5 with h5 | h5
  ·rw [au (by omega)];rfl
  ·rw [ao (by omega:s.rows<=1)];simp
 rw [e1,e2];rfl
theorem OkS.of {s:Sc} (h:rQ s.t=true) (ht:bk s.tabs):∃R C,OkS s R C:=by
 unfold rQ Sc.t at h
 simp only [Bool.and_eq_true,decide_eq_true_eq,Bool.or_eq_true,Bool.not_eq_true',decide_eq_false_iff_not,beq_iff_eq] at h
 obtain ⟨⟨hg,hm1,hm2⟩,⟨⟨h2,h3,h4,h5,h6,h7⟩,h8,h9,h10⟩,h11,h12,h13,h14⟩:=h
 obtain ⟨R,C,r1,r2,hs,hg⟩:=w5.1 hg
 refine ⟨R,C,⟨r1,r2,hs,hg,?_,by omega,by omega,?_,by omega,by omega,by omega,⟨h9,h10⟩,h11,h12,h13,h14,ht⟩⟩
 ·cases ho:aU s.modes with
  | true=>
   rw [ho] at hm2
   rcases hm2 with hm2 | hm2
   ·simp at hm2
   ·obtain ⟨R',C',q1,q2,_,hg'⟩:=w5.1 hm2
    have e1:R'=R:=by omega
    have e2:C'=C:=by omega
    subst e1;subst e2
    exact .inl ⟨rfl,hg'⟩
  | false=>
   rw [ho] at hm1
   have:s.main.length=0:=by
    rcases Nat.eq_zero_or_pos s.main.length with h | h
    ·exact h
    ·rw [ao h] at hm1;simp at hm1
   exact .inr ⟨rfl,List.eq_nil_of_length_eq_zero this⟩
 ·intro hl
  rcases h7 with h7 | h7
  ·rw [hl] at h7;simp at h7
  ·omega
def nN (ch:ChT) (R C row col:Int) (late:Bool) (p:PenT) (top bottom modes:Int) (t:TabT) (g:aA):aA×Int×Int×Bool:=
 bif ch.1==2 then ((tY R top bottom p ch.2.1.toNat (g,row)).1,(tY R top bottom p ch.2.1.toNat (g,row)).2,col,late)
 else bif ch.1==3 then (bif row==top then (scrM g top bottom (-1) p,row,col,late) else (g,if row-1>0 then row-1 else 0,col,late))
 else bif ch.1==4 then (g,row,0,late)
 else bif ch.1==5 then (g,(iB ch.2.1 ch.2.2.1 R C top bottom modes).1,(iB ch.2.1 ch.2.2.1 R C top bottom modes).2,false)
 else bif ch.1==6 then (g,(lu ch.2.1 ch.2.2.1 R C row col top bottom).1,(lu ch.2.1 ch.2.2.1 R C row col top bottom).2,late)
 else bif ch.1==7 then (g,row,betw ch.2.1 0 (C-1),late)
 else bif ch.1==8 then (g,(iB ch.2.1 col R C top bottom modes).1,(iB ch.2.1 col R C top bottom modes).2,false)
 else bif ch.1==9 then (g,row,n9 t (-ch.2.1).toNat (my t C ch.2.1.toNat col),late)
 else (g,row,col,late)
theorem beqf {a b:Int} (h:(a==b)=true):a=b:=by simpa using h
theorem IV {R C:Nat} {ch:ChT} {row col:Int} {p:PenT} {top bottom:Int} {t:TabT} {g:aA} (e:EnvS R C top bottom p) (hx:inG R C (g,row,col)) (ht:bk t) (hn:ch.1≠20->ch.1≠27->(-1000<=ch.2.1/\ch.2.1<=1000) /\ -1000<=ch.2.2.1/\ch.2.2.1<=1000) (modes:Int) (m:aA) (ti:List Int) :
  fy ch (R:Int) (C:Int) row col false p.1 p.2.1 p.2.2 top bottom modes t.1 t.2.1 t.2.2.1 t.2.2.2 g m ti=some (nN ch R C row col false p top bottom modes t g) /\
  inG R C ((nN ch R C row col false p top bottom modes t g).1,(nN ch R C row col false p top bottom modes t g).2.1,(nN ch R C row col false p top bottom modes t g).2.2.1)/\(nN ch R C row col false p top bottom modes t g).2.2.2=false:=by
 have hs:=e.sz
 unfold szR at hs
 obtain ⟨hg,hr,hc⟩:=hx
 simp only at hg hr hc
 have hx:inG R C (g,row,col):=⟨hg,hr,hc⟩
 unfold fy nN
 simp only [bt,Option.bind_some,rleq,aJ,kA]
 cases h2:(ch.1==2) with
 | true=>
  obtain ⟨⟨n1,n2⟩,n3⟩:=hn (by have:=beqf h2;omega) (by have:=beqf h2;omega)
  obtain ⟨l1,l2,l3⟩:=zE e m ti (ch:=ch) n2 ch.2.1.toNat 0 g row (by omega) (by omega) (by omega) hg hr
  simp only [cond_true]
  rw [l1]
  exact ⟨rfl,⟨l2,l3,hc⟩,by first | trivial | rfl⟩
 | false=>
 simp only [cond_false]
 cases h3:(ch.1==3) with
 | true=>
  simp only [cond_true]
  cases h31:(row==top) with
  | true=>
   obtain ⟨q1,q2⟩:=Ap e.sz e.epen e.ebot hg e.etop e.etb (n:=-1) (by omega)
   simp only [cond_true]
   rw [q1]
   exact ⟨rfl,⟨q2,hr,hc⟩,by first | trivial | rfl⟩
  | false=>
   simp only [cond_false]
   rw [ag (x:=row-1) (by omega)]
   refine ⟨rfl,⟨hg,?_,hc⟩,by first | trivial | rfl⟩
   simp only
   split <;> omega
 | false=>
 simp only [cond_false]
 cases h4:(ch.1==4) with
 | true=>exact ⟨rfl,⟨hg,hr,by simp only [cond_true];omega⟩,rfl⟩
 | false=>
 simp only [cond_false]
 cases h5:(ch.1==5) with
 | true=>
  obtain ⟨⟨n1,n2⟩,n3⟩:=hn (by have:=beqf h5;omega) (by have:=beqf h5;omega)
  obtain ⟨q1,q2,q3⟩:=tT (row:=ch.2.1) (col:=ch.2.2.1) e.sz e.etop e.etb e.ebot (by omega) modes
  simp only [cond_true]
  rw [q1]
  exact ⟨rfl,⟨hg,q2,q3⟩,by first | trivial | rfl⟩
 | false=>
 simp only [cond_false]
 cases h6:(ch.1==6) with
 | true=>
  obtain ⟨⟨n1,n2⟩,n3⟩:=hn (by have:=beqf h6;omega) (by have:=beqf h6;omega)
  obtain ⟨q1,q2,q3⟩:=IB (rows:=ch.2.1) (cols:=ch.2.2.1) e.sz e.etop e.etb e.ebot (by omega) (by omega) hr hc
  simp only [cond_true]
  rw [q1]
  exact ⟨rfl,⟨hg,q2,q3⟩,by first | trivial | rfl⟩
 | false=>
 simp only [cond_false]
 cases h7:(ch.1==7) with
 | true=>
  have:=eQ (n:=ch.2.1) (lo:=0) (hi:=(C:Int)-1) (by omega)
  simp only [cond_true]
  rw [ag (x:=(C:Int)-1) (by omega)]
  exact ⟨rfl,⟨hg,hr,by simp only;omega⟩,by first | trivial | rfl⟩
 | false=>
 simp only [cond_false]
 cases h8:(ch.1==8) with
 | true=>
  obtain ⟨⟨n1,n2⟩,n3⟩:=hn (by have:=beqf h8;omega) (by have:=beqf h8;omega)
  obtain ⟨q1,q2,q3⟩:=tT (row:=ch.2.1) (col:=col) e.sz e.etop e.etb e.ebot (by omega) modes
  simp only [cond_true]
  rw [q1]
  exact ⟨rfl,⟨hg,q2,q3⟩,by first | trivial | rfl⟩
 | false=>
 simp only [cond_false]
 cases h9:(ch.1==9) with
 | true=>
  obtain ⟨⟨n1,n2⟩,n3⟩:=hn (by have:=beqf h9;omega) (by have:=beqf h9;omega)
  obtain ⟨q1,q2⟩:=zp ht (C:=C) (by omega) (ch:=ch) n2 ch.2.1.toNat 0 col (by omega) (by omega) (by omega) hc
  obtain ⟨q3,q4⟩:=zY ht (C:=C) (ch:=ch) ⟨n1,n2⟩ (-ch.2.1).toNat 0 _ (by omega) (by omega) (by omega) q2
  simp only [cond_true]
  rw [q1]
  simp only [Option.bind_some]
  rw [q3]
  exact ⟨rfl,⟨hg,hr,q4⟩,by first | trivial | rfl⟩
 | false=>exact ⟨rfl,hx,rfl⟩
def oR (which:Int) (first here last:Int×Int) (p:PenT) (g:aA):aA:=
 bif which==0 then j4 g here last p else bif which==1 then j4 g first here p else bif which==2 then j4 g first last p else g
theorem zH {R C:Nat} {p:PenT} {g:aA} (hg:gok g R C) (hs:szR R C) (hp:aO p=true) (w:Int) (f h l:Int×Int) :
  dj w f h l p.1 p.2.1 p.2.2 g=some (oR w f h l p g)/\gok (oR w f h l p g) R C:=by
 have key:∀a b:Int×Int,eM a b (p.1,p.2.1,p.2.2) g=some (j4 g a b p):=fun a b=>Gd hg hs hp
 unfold dj oR
 simp only [bt,Option.bind_some,rleq,aJ,key]
 cases w==0 with
 | true=>exact ⟨rfl,rY hg hp⟩
 | false=>
  cases w==1 with
  | true=>exact ⟨rfl,rY hg hp⟩
  | false=>
   cases w==2 with
   | true=>exact ⟨rfl,rY hg hp⟩
   | false=>exact ⟨rfl,hg⟩
def zX:ak:=(69,(0,0),0,0,0,0)
def p5 (g:aA):aA:=g.map fun l=>List.replicate l.length zX
theorem Ea:nd none zX=some none:=by decide +kernel
theorem zW:∀n,seg (List.replicate n zX)
 | 0=>rfl
 | n+1=>by
  unfold seg
  rw [List.replicate_succ,cz,Ea]
  exact zW n
theorem F7 {R C:Nat} {g:aA} (hg:gok g R C) (hs:szR R C):dk (R:Int) g=some (p5 g,(R:Int)-1)/\gok (p5 g) R C:=by
 have hs':=hs
 unfold szR at hs
 constructor
 ·unfold dk
  have hh:((g).headD []).length=C:=by
   cases g with
   | nil=>have:=hg.1;simp at this;omega
   | cons l r=>exact (hg.2 l (by simp)).1
  rw [hh]
  have:rB g C=true:=by
   unfold rB
   rw [ao (by omega:0<C),ao (by omega:C<=1000),ao (by have:=hg.1;omega:g.length<=1000)]
   simp only [Bool.true_and,List.all_eq_true,decide_eq_true_eq]
   exact fun l hl=>(hg.2 l hl).1
  erw [if_pos this]
  rw [ag (by omega)]
  rfl
 ·unfold p5
  refine ⟨by simp [hg.1],fun l hl=>?_⟩
  obtain ⟨x,hx,rfl⟩:=List.mem_map.1 hl
  have:=(hg.2 x hx).1
  exact ⟨by simp [this],bh.2 ⟨by simp;omega,zW _⟩⟩
def pos0 (x:Int):Int:=if x>0 then x else 0
def aL (r c:Int) (s:Sc):Sc:=
 {s with
  grid:=fitG s.grid r.toNat c.toNat (pos0 (s.row+1-r)).toNat
  main:=bif decide ((s.main.length:Int)>0) then fitG s.main r.toNat c.toNat (pos0 ((if s.rows-1<s.sv0.1 then s.rows-1 else s.sv0.1)+1-r)).toNat else s.main
  rows:=r,cols:=c,row:=s.row-pos0 (s.row+1-r),col:=if c-1<s.col then c-1 else s.col,top:=0,bottom:=r-1
  tabs:=bif decide (c>s.cols) then (cx s.tabs s.cols c).getD (0,0,0,0) else s.tabs }
theorem Gc:oQ=iu:=rfl
theorem Fz {s:Sc} {R C:Nat} (h:OkS s R C) (hl:s.late=false) {R' C':Nat} (hs':szR R' C') :
  d9 (R':Int) (C':Int) s.rows s.cols s.row s.col s.sv0.1 s.tabs.1 s.tabs.2.1 s.tabs.2.2.1 s.tabs.2.2.2 s.grid s.main=some ((aL R' C' s).grid,(aL R' C' s).main,(aL R' C' s).rows,(aL R' C' s).cols,(aL R' C' s).row,(aL R' C' s).col,(aL R' C' s).bottom,(aL R' C' s).tabs.1,(aL R' C' s).tabs.2.1,(aL R' C' s).tabs.2.2.1,(aL R' C' s).tabs.2.2.2)/\OkS (aL R' C' s) R' C':=by
 have hsz:=h.sz
 have hsz':=hs'
 unfold szR at hsz hsz'
 have h1:=h.row;have h2:=h.col;have hr:=h.hr;have hc:=h.hc
 have hsp:0<=s.sv0.1/\s.sv0.1<200:=by
  have:=h.s0
  simp only [dT,Bool.and_eq_true,decide_eq_true_eq] at this
  exact this.1
 obtain ⟨gone,hgone⟩:∃k:Nat,pos0 (s.row+1-R')=k:=⟨(pos0 (s.row+1-R')).toNat,by unfold pos0;split <;> omega⟩
 have hgle:gone<=R:=by unfold pos0 at hgone;split at hgone <;> omega
 obtain ⟨gm,hgm⟩:∃k:Nat,pos0 ((if s.rows-1<s.sv0.1 then s.rows-1 else s.sv0.1)+1-R')=k:=⟨(pos0 ((if s.rows-1<s.sv0.1 then s.rows-1 else s.sv0.1)+1-R')).toNat,by unfold pos0;split <;> omega⟩
 have hgmle:gm<=R:=by unfold pos0 at hgm;split at hgm <;> split at hgm <;> omega
 have hgok':0<=s.row-gone/\s.row-gone<R':=by unfold pos0 at hgone;split at hgone <;> omega
 have hF:=Fl h.g h.sz hs' hgle
 have hmin:∃k:Int,(if s.rows-1<s.sv0.1 then s.rows-1 else s.sv0.1)=k/\0<=k/\k<200:=⟨_,rfl,by split <;> omega,by split <;> omega⟩
 obtain ⟨k,hk,hk1,hk2⟩:=hmin
 rw [hk] at hgm
 have hmain:((bif decide ((s.main.length:Int)>0) then (iu (R':Int) (C':Int) (gm:Int) s.main).bind fun x5=>some x5 else some s.main:Option aA))=some (aL R' C' s).main/\((aU s.modes=true/\gok (aL R' C' s).main R' C')\/(aU s.modes=false/\(aL R' C' s).main=[])):=by
  unfold aL
  simp only [hk,hgm,Int.toNat_natCast]
  rcases h.m with ⟨m1,m2⟩ | ⟨m1,m2⟩
  ·rw [ao (by rw [m2.1];omega:(s.main.length:Int)>0)]
   simp only [cond_true]
   rw [Fl m2 h.sz hs' hgmle]
   exact ⟨rfl,.inl ⟨m1,CC m2 hs'⟩⟩
  ·rw [m2]
   exact ⟨rfl,.inr ⟨m1,rfl⟩⟩
 have htabs:((bif decide ((C':Int)>s.cols) then (cx (s.tabs.1,s.tabs.2.1,s.tabs.2.2.1,s.tabs.2.2.2) s.cols (C':Int)).bind fun x10=>some (x10.1,x10.2.1,x10.2.2.1,x10.2.2.2) else some (s.tabs.1,s.tabs.2.1,s.tabs.2.2.1,s.tabs.2.2.2):Option TabT))=some (aL R' C' s).tabs/\bk (aL R' C' s).tabs:=by
  unfold aL
  simp only
  obtain ⟨t',ht1,ht2⟩:=CX h.tabs s.cols (C':Int)
  cases decide ((C':Int)>s.cols) with
  | true=>
   simp only [cond_true]
   have:cx (s.tabs.1,s.tabs.2.1,s.tabs.2.2.1,s.tabs.2.2.2) s.cols (C':Int)=some t':=ht1
   rw [this]
   exact ⟨rfl,ht2⟩
  | false=>exact ⟨rfl,h.tabs⟩
 constructor
 ·unfold d9
  simp only [rleq,aJ,bt,Option.bind_some]
  rw [ag (x:=s.row+1) (by omega),ag (x:=s.row+1-(R':Int)) (by omega),ag (x:=s.rows-1) (by omega),hk,ag (x:=k+1) (by omega),ag (x:=k+1-(R':Int)) (by omega)]
  have e1:(if s.row+1-(R':Int)>0 then s.row+1-(R':Int) else 0)=(gone:Int):=hgone
  have e2:(if k+1-(R':Int)>0 then k+1-(R':Int) else 0)=(gm:Int):=hgm
  rw [e1,e2,hF,Gc]
  simp only [Option.bind_some]
  rw [hmain.1]
  simp only [Option.bind_some]
  erw [htabs.1]
  simp only [Option.bind_some]
  rw [ag (x:=s.row-(gone:Int)) (by omega),ag (x:=(C':Int)-1) (by omega),ag (x:=(R':Int)-1) (by omega)]
  unfold aL
  simp only [hgone,Int.toNat_natCast]
 ·refine ⟨rfl,rfl,hs',?_,hmain.2,?_,?_,?_,?_,?_,?_,h.md,h.pen,h.s0,h.s1,h.ti,htabs.2⟩
  ·unfold aL
   simp only [hgone,Int.toNat_natCast]
   exact CC h.g hs'
  ·unfold aL
   simp only [hgone]
   exact hgok'
  ·unfold aL
   simp only
   split <;> omega
  ·intro hl'
   have:s.late=true:=hl'
   rw [hl] at this;simp at this
  ·unfold aL;simp only;omega
  ·unfold aL;simp only;omega
  ·unfold aL;simp only;omega
end Go.SH
namespace Go.SH
open IntKind (i64 u64 i32 u8)
def gG (ch:ChT) (s:Sc):Sc:=
 bif ch.1==11 then { s with grid:=oR ch.2.1 (s.row,0) (s.row,s.col) (s.row,s.cols-1) s.pen s.grid }
 else bif ch.1==12 then { s with grid:=oR ch.2.1 (0,0) (s.row,s.col) (s.rows-1,s.cols-1) s.pen s.grid }
 else bif ch.1==13 then { s with grid:=setR s.grid s.row (gq (rowG s.grid s.row) s.col ch.2.1 s.pen) }
 else bif ch.1==14 then { s with grid:=setR s.grid s.row (lK (rowG s.grid s.row) s.col ch.2.1 s.pen) }
 else bif ch.1==15 then { s with grid:=setR s.grid s.row (gc (rowG s.grid s.row) s.col (s.col+pos0 ch.2.1) s.pen) }
 else bif (ch.1==16)||(ch.1==17) then (bif decide (s.row<s.top)||decide (s.row>s.bottom) then s else { s with grid:=scrM s.grid s.row s.bottom (bif ch.1==16 then 0-pos0 ch.2.1 else pos0 ch.2.1) s.pen,col:=0 })
 else bif ch.1==18 then { s with grid:=scrM s.grid s.top s.bottom ch.2.1 s.pen }
 else bif ch.1==19 then (bif decide (ch.2.1>=0)&&(decide (ch.2.1<ch.2.2.1)&&decide (ch.2.2.1<s.rows)) then
  {s with row:=(iB 0 0 s.rows s.cols ch.2.1 ch.2.2.1 s.modes).1,col:=(iB 0 0 s.rows s.cols ch.2.1 ch.2.2.1 s.modes).2,late:=false,top:=ch.2.1,bottom:=ch.2.2.1 } else s)
 else bif ch.1==23 then { s with grid:=p5 s.grid,row:=0,col:=0,top:=0,bottom:=s.rows-1 }
 else bif ch.1==27 then aL (betw ch.2.1 1 200) (betw ch.2.2.1 1 200) s
 else s
def Sc.e (s:Sc):aA×aA×Int×Int×Int×Int×Bool×Int×Int×Int×Int×Int×Int:=(s.grid,s.main,s.rows,s.cols,s.row,s.col,s.late,s.top,s.bottom,s.tabs.1,s.tabs.2.1,s.tabs.2.2.1,s.tabs.2.2.2)
theorem okG {s:Sc} {R C:Nat} (h:OkS s R C) {g:aA} (hg:gok g R C):OkS { s with grid:=g } R C:=⟨h.hr,h.hc,h.sz,hg,h.m,h.row,h.col,h.late,h.top,h.bot,h.tb,h.md,h.pen,h.s0,h.s1,h.ti,h.tabs⟩
def C2 (ch:ChT) (s:Sc) (R C:Nat):Prop:=∃R' C',OkS s R' C'/\(ch.1≠27->R'=R/\C'=C)
theorem iz {ch:ChT} {s:Sc} {R C:Nat} (h:OkS s R C):C2 ch s R C:=⟨R,C,h,fun _=>⟨rfl,rfl⟩⟩
def chN (ch:ChT):Prop:=ch.1≠20->ch.1≠27->(-1000<=ch.2.1/\ch.2.1<=1000) /\ -1000<=ch.2.2.1/\ch.2.2.1<=1000
theorem Jb {s:Sc} {R C:Nat} (h:OkS s R C) (hl:s.late=false) {ch:ChT} (hn:chN ch) :
  dJ ch s.rows s.cols s.row s.col s.late s.pen.1 s.pen.2.1 s.pen.2.2 s.top s.bottom s.modes s.sv0.1 s.tabs.1 s.tabs.2.1 s.tabs.2.2.1 s.tabs.2.2.2 s.grid s.main s.title=some (gG ch s).e/\C2 ch (gG ch s) R C:=by
 have hs:=h.sz
 unfold szR at hs
 have hr:=h.row;have hc:=h.col;have hR:=h.hr;have hC:=h.hc;have ht:=h.top;have hb:=h.bot
 have hgl:s.grid.length=R:=h.g.1
 obtain ⟨k1,k2,k3⟩:=gY h.g h.row
 have hins:∀n,(de (rowG s.grid s.row) s.col n (s.pen.1,s.pen.2.1,s.pen.2.2))=some (gq (rowG s.grid s.row) s.col n s.pen):=fun n=>z7 k3 h.pen
 have hdel:∀n,(fw (rowG s.grid s.row) s.col n (s.pen.1,s.pen.2.1,s.pen.2.2))=some (lK (rowG s.grid s.row) s.col n s.pen):=fun n=>Ge k3 h.pen
 have hera:∀n,(eJ (rowG s.grid s.row) s.col n (s.pen.1,s.pen.2.1,s.pen.2.2))=some (gc (rowG s.grid s.row) s.col n s.pen):=fun n=>C4 k3 h.pen
 have w1:i64.wrap (s.rows-1)=s.rows-1:=ag (by omega)
 have w2:i64.wrap (s.cols-1)=s.cols-1:=ag (by omega)
 unfold dJ gG
 rw [ac (by omega),k1]
 simp only [bt]
 simp only [bt2,bto,btor,Option.bind_some,Bool.and_true,Bool.or_false,rleq,aJ,kA,w1,w2]
 cases h1:(ch.1==11) with
 | true=>
  obtain ⟨q1,q2⟩:=zH h.g h.sz h.pen ch.2.1 (s.row,0) (s.row,s.col) (s.row,s.cols-1)
  simp only [cond_true]
  rw [q1]
  exact ⟨rfl,iz (okG h q2)⟩
 | false=>
 simp only [cond_false]
 cases h2:(ch.1==12) with
 | true=>
  obtain ⟨q1,q2⟩:=zH h.g h.sz h.pen ch.2.1 (0,0) (s.row,s.col) (s.rows-1,s.cols-1)
  simp only [cond_true]
  rw [q1]
  exact ⟨rfl,iz (okG h q2)⟩
 | false=>
 simp only [cond_false]
 cases h3:(ch.1==13) with
 | true=>
  simp only [cond_true]
  rw [hins]
  simp only [Option.bind_some]
  rw [ac (by omega),ac (by simp)]
  have hm:=jv (a:=s.col) (n:=ch.2.1) k3 h.pen
  exact ⟨rfl,iz (okG h (nm h.g ⟨hm.1,hm.2.trans k2⟩))⟩
 | false=>
 simp only [cond_false]
 cases h4:(ch.1==14) with
 | true=>
  simp only [cond_true]
  rw [hdel]
  simp only [Option.bind_some]
  rw [ac (by omega),ac (by simp)]
  have hm:=vO (a:=s.col) (n:=ch.2.1) k3 h.pen
  exact ⟨rfl,iz (okG h (nm h.g ⟨hm.1,hm.2.trans k2⟩))⟩
 | false=>
 simp only [cond_false]
 cases h5:(ch.1==15) with
 | true=>
  obtain ⟨⟨n1,n2⟩,n3⟩:=hn (by have:=beqf h5;omega) (by have:=beqf h5;omega)
  simp only [cond_true]
  have e0:(if ch.2.1>(0:Int) then ch.2.1 else (0:Int))=pos0 ch.2.1:=rfl
  have e1:i64.wrap (s.col+pos0 ch.2.1)=s.col+pos0 ch.2.1:=ag (by unfold pos0;split <;> omega)
  rw [e0,e1,hera]
  simp only [Option.bind_some]
  rw [ac (by omega),ac (by simp)]
  have hm:=rX (f:=s.col) (t:=s.col+pos0 ch.2.1) k3 h.pen
  exact ⟨rfl,iz (okG h (nm h.g ⟨hm.1,hm.2.trans k2⟩))⟩
 | false=>
 simp only [cond_false]
 cases h6:((ch.1==16)||(ch.1==17)) with
 | true=>
  simp only [cond_true]
  cases h61:(decide (s.row<s.top)||decide (s.row>s.bottom)) with
  | true=>exact ⟨rfl,iz h⟩
  | false=>
   simp only [Bool.or_eq_false_iff,decide_eq_false_iff_not] at h61
   have hk:ch.1=16\/ch.1=17:=by simpa using h6
   obtain ⟨⟨n1,n2⟩,n3⟩:=hn (by omega) (by omega)
   have e0:(if ch.2.1>(0:Int) then ch.2.1 else (0:Int))=pos0 ch.2.1:=rfl
   have hp0:0<=pos0 ch.2.1/\pos0 ch.2.1<=1000:=by unfold pos0;split <;> omega
   have e1:i64.wrap (0-pos0 ch.2.1)=0-pos0 ch.2.1:=ag (by omega)
   simp only [cond_false,e0,e1,CS,Option.bind_some]
   obtain ⟨q1,q2⟩:=Ap h.sz h.pen h.bot.2 h.g hr.1 (by omega) (f:=s.row) (n:=(bif ch.1==16 then 0-pos0 ch.2.1 else pos0 ch.2.1)) (by cases (ch.1==16) <;> simp only [cond_true,cond_false] <;> omega)
   rw [q1]
   exact ⟨rfl,iz ⟨h.hr,h.hc,h.sz,q2,h.m,h.row,by simp only;omega,by intro hl';rw [hl] at hl';simp at hl',h.top,h.bot,h.tb,h.md,h.pen,h.s0,h.s1,h.ti,h.tabs⟩⟩
 | false=>
 simp only [cond_false]
 cases h7:(ch.1==18) with
 | true=>
  obtain ⟨⟨n1,n2⟩,n3⟩:=hn (by have:=beqf h7;omega) (by have:=beqf h7;omega)
  simp only [cond_true]
  obtain ⟨q1,q2⟩:=Ap h.sz h.pen h.bot.2 h.g ht.1 h.env.etb (n:=ch.2.1) (by omega)
  rw [q1]
  exact ⟨rfl,iz (okG h q2)⟩
 | false=>
 simp only [cond_false]
 cases h8:(ch.1==19) with
 | true=>
  simp only [cond_true]
  cases h81:(decide (ch.2.1>=0)&&(decide (ch.2.1<ch.2.2.1)&&decide (ch.2.2.1<s.rows))) with
  | true=>
   simp only [Bool.and_eq_true,decide_eq_true_eq] at h81
   simp only [cond_true]
   obtain ⟨q1,q2,q3⟩:=tT (row:=0) (col:=0) (top:=ch.2.1) (bottom:=ch.2.2.1) h.sz (by omega) (by omega) (by omega) (by omega) s.modes
   rw [<-hR,<-hC] at q1 q2 q3
   rw [q1]
   refine ⟨rfl,iz ⟨h.hr,h.hc,h.sz,h.g,h.m,by simp only;omega,by simp only;omega,by intro hl';simp at hl',by simp only;omega,by simp only;omega,by simp only;omega,h.md,h.pen,h.s0,h.s1,h.ti,h.tabs⟩⟩
  | false=>exact ⟨rfl,iz h⟩
 | false=>
 simp only [cond_false]
 cases h9:(ch.1==23) with
 | true=>
  simp only [cond_true]
  obtain ⟨q1,q2⟩:=F7 h.g h.sz
  rw [<-hR] at q1
  rw [q1]
  simp only [Option.bind_some]
  rw [ac (by unfold p5;simp)]
  refine ⟨rfl,iz ⟨h.hr,h.hc,h.sz,q2,h.m,by simp only;omega,by simp only;omega,by intro hl';rw [hl] at hl';simp at hl',by simp only;omega,by simp only;omega,by simp only;omega,h.md,h.pen,h.s0,h.s1,h.ti,h.tabs⟩⟩
 | false=>
 simp only [cond_false]
 cases hA:(ch.1==27) with
 | true=>
  simp only [cond_true]
  have b1:=eQ (n:=ch.2.1) (lo:=1) (hi:=200) (by omega)
  have b2:=eQ (n:=ch.2.2.1) (lo:=1) (hi:=200) (by omega)
  obtain ⟨R',hR'⟩:∃k:Nat,betw ch.2.1 1 200=k:=⟨(betw ch.2.1 1 200).toNat,by omega⟩
  obtain ⟨C',hC'⟩:∃k:Nat,betw ch.2.2.1 1 200=k:=⟨(betw ch.2.2.1 1 200).toNat,by omega⟩
  rw [hR',hC']
  obtain ⟨q1,q2⟩:=Fz h hl (R':=R') (C':=C') ⟨by omega,by omega,by omega,by omega⟩
  rw [q1]
  exact ⟨rfl,R',C',q2,fun hne=>absurd (beqf hA) hne⟩
 | false=>exact ⟨rfl,iz h⟩
def dO:List Int:=[1,2,4,8,16,32,64,128]
theorem Jl:∀b:_root_.Fin 256,(decide ((b.val:Int)<1)||(az .and .i64 (b.val:Int) (i64.wrap ((b.val:Int)-1)) !=0)||dO.contains (b.val:Int))=true:=by decide +kernel
def gN (m b:Int):Int:=az .or .i64 (az .andNot .i64 m b) b
def gr (m b:Int):Int:=az .andNot .i64 m b
def H5 (x:Int):Bool:=decide (0<=x)&&decide (x<=255)
theorem He:∀m:_root_.Fin 256,∀k:_root_.Fin 8,(let b:=dO[k.val]?.getD 0;H5 (gN m.val b)&&H5 (gr m.val b)&&(b==128||(aU (gN m.val b)==aU m.val&&(aU (gr m.val b)==aU m.val))))=true:=by decide +kernel
theorem Hf:∀m:_root_.Fin 256,(aU (gN m.val 128) && !aU (gr m.val 128))=true:=by decide +kernel
theorem vo {b:Int} (h:b∈dO):∃k:_root_.Fin 8,dO[k.val]?.getD 0=b:=by
 simp only [dO,List.mem_cons,List.not_mem_nil,or_false] at h
 rcases h with h | h | h | h | h | h | h | h <;> subst h
 ·exact ⟨0,rfl⟩
 ·exact ⟨1,rfl⟩
 ·exact ⟨2,rfl⟩
 ·exact ⟨3,rfl⟩
 ·exact ⟨4,rfl⟩
 ·exact ⟨5,rfl⟩
 ·exact ⟨6,rfl⟩
 ·exact ⟨7,rfl⟩
theorem Hd {m b:Int} (hm:0<=m/\m<=255) (hb:b∈dO):(0<=gN m b/\gN m b<=255)/\(0<=gr m b/\gr m b<=255)/\(b≠128->aU (gN m b)=aU m/\aU (gr m b)=aU m):=by
 obtain ⟨k,hk⟩:=vo hb
 have:=He ⟨m.toNat,by omega⟩ k
 simp only [hk,show ((m.toNat:Nat):Int)=m from by omega,H5,Bool.and_eq_true,decide_eq_true_eq,Bool.or_eq_true,beq_iff_eq] at this
 exact ⟨this.1.1,this.1.2,fun h=>by rcases this.2 with h2 | h2;exact absurd h2 h;exact h2⟩
theorem KH {m:Int} (hm:0<=m/\m<=255):aU (gN m 128)=true/\aU (gr m 128)=false:=by
 have:=Hf ⟨m.toNat,by omega⟩
 simpa only [show ((m.toNat:Nat):Int)=m from by omega,Bool.and_eq_true,Bool.not_eq_true'] using this
def rt (s:Sc):pg:=(s.row,s.col,s.pen,oF s.modes,s.late)
def bG (s:Sc):Sc:=bif aU s.modes then { s with sv1:=rt s } else { s with sv0:=rt s }
def cv (s:Sc):pg:=bif aU s.modes then s.sv1 else s.sv0
def cN (s:Sc):Sc:=
 {s with row:=betw (cv s).1 0 (s.rows-1),col:=betw (cv s).2.1 0 (s.cols-1),pen:=(cv s).2.2.1,modes:=bif (cv s).2.2.2.1 then gN s.modes 2 else gr s.modes 2,late:=bif (cv s).2.2.2.2 then betw (cv s).2.1 0 (s.cols-1)==s.cols-1 else false }
theorem EJ (m:Int):dI m=some (bif aU m then 1 else 0):=by
 unfold dI aU
 cases (az .and .i64 m 128 !=0) <;> rfl
def Sc.sv (s:Sc):Int×Int×Int×Int×Int×Bool×Bool×Int×Int×Int×Int×Int×Bool×Bool:=(s.sv0.1,s.sv0.2.1,s.sv0.2.2.1.1,s.sv0.2.2.1.2.1,s.sv0.2.2.1.2.2,s.sv0.2.2.2.1,s.sv0.2.2.2.2,
 s.sv1.1,s.sv1.2.1,s.sv1.2.2.1.1,s.sv1.2.2.1.2.1,s.sv1.2.2.1.2.2,s.sv1.2.2.2.1,s.sv1.2.2.2.2)
theorem EC (s:Sc) (g m:aA) (ti:List Int):dH s.row s.col s.late s.pen.1 s.pen.2.1 s.pen.2.2 s.modes s.sv0.1 s.sv0.2.1 s.sv0.2.2.1.1 s.sv0.2.2.1.2.1 s.sv0.2.2.1.2.2 s.sv0.2.2.2.1 s.sv0.2.2.2.2
  s.sv1.1 s.sv1.2.1 s.sv1.2.2.1.1 s.sv1.2.2.1.2.1 s.sv1.2.2.1.2.2 s.sv1.2.2.2.1 s.sv1.2.2.2.2 g m ti=some (bG s).sv:=by
 unfold dH bG
 simp only [rleq,aJ,EJ,Option.bind_some]
 cases aU s.modes <;> rfl
theorem wZ {s:Sc} {R C:Nat} (h:OkS s R C):dT (rt s)=true:=by
 have hs:=h.sz
 unfold szR at hs
 have hr:=h.row;have hc:=h.col
 unfold dT rt
 simp only
 rw [ao (by omega:0<=s.row/\s.row<200),ao (by omega:0<=s.col/\s.col<200),h.pen];rfl
theorem BY {s:Sc} {R C:Nat} (h:OkS s R C):OkS (bG s) R C:=by
 unfold bG
 cases aU s.modes with
 | true=>exact ⟨h.hr,h.hc,h.sz,h.g,h.m,h.row,h.col,h.late,h.top,h.bot,h.tb,h.md,h.pen,h.s0,wZ h,h.ti,h.tabs⟩
 | false=>exact ⟨h.hr,h.hc,h.sz,h.g,h.m,h.row,h.col,h.late,h.top,h.bot,h.tb,h.md,h.pen,wZ h,h.s1,h.ti,h.tabs⟩
theorem xf {s:Sc} {R C:Nat} (hR:s.rows=R) (hC:s.cols=C) (hs:szR R C) (g m:aA) (ti:List Int):bX s.rows s.cols s.modes s.sv0.1 s.sv0.2.1 s.sv0.2.2.1.1 s.sv0.2.2.1.2.1 s.sv0.2.2.1.2.2 s.sv0.2.2.2.1 s.sv0.2.2.2.2
  s.sv1.1 s.sv1.2.1 s.sv1.2.2.1.1 s.sv1.2.2.1.2.1 s.sv1.2.2.1.2.2 s.sv1.2.2.2.1 s.sv1.2.2.2.2 g m ti=some ((cN s).row,(cN s).col,(cN s).late,(cN s).pen.1,(cN s).pen.2.1,(cN s).pen.2.2,(cN s).modes):=by
 unfold szR at hs
 unfold bX cN cv
 rw [ag (x:=s.rows-1) (by omega),ag (x:=s.cols-1) (by omega)]
 have ez:∀(b:Bool) (x y:Int×Int×Int×Int×Int×Bool×Bool),((bif (bif b then (1:Int) else 0)==0 then some x else bif (bif b then (1:Int) else 0)==1 then some y else none:Option (Int×Int×Int×Int×Int×Bool×Bool)))=some (bif b then y else x):=fun b x y=>by cases b <;> rfl
 simp only [bt]
 simp only [rleq,aJ,EJ,Option.bind_some,kA,ez]
 cases aU s.modes with
 | true=>
  simp only [cond_true]
  cases s.sv1.2.2.2.1 <;> cases s.sv1.2.2.2.2 <;> rfl
 | false=>
  simp only [cond_false]
  cases s.sv0.2.2.2.1 <;> cases s.sv0.2.2.2.2 <;> rfl
theorem vC {s:Sc} {R C:Nat} (h:OkS s R C):OkS (cN s) R C:=by
 have hs:=h.sz
 unfold szR at hs
 have hR:=h.hr;have hC:=h.hc
 have hsp:dT (cv s)=true:=by
  unfold cv
  cases aU s.modes with
  | true=>exact h.s1
  | false=>exact h.s0
 simp only [dT,Bool.and_eq_true] at hsp
 have b1:=eQ (n:=(cv s).1) (lo:=0) (hi:=s.rows-1) (by omega)
 have b2:=eQ (n:=(cv s).2.1) (lo:=0) (hi:=s.cols-1) (by omega)
 obtain ⟨m1,m2,m3⟩:=Hd h.md (b:=2) (by simp [dO])
 obtain ⟨o1,o2⟩:=m3 (by decide)
 refine ⟨h.hr,h.hc,h.sz,h.g,?_,?_,?_,?_,h.top,h.bot,h.tb,?_,hsp.2.2,h.s0,h.s1,h.ti,h.tabs⟩
 ·have:aU (cN s).modes=aU s.modes:=by
   unfold cN
   cases (cv s).2.2.2.1 with
   | true=>exact o1
   | false=>exact o2
  rw [this];exact h.m
 ·unfold cN;simp only;omega
 ·unfold cN;simp only;omega
 ·unfold cN
  simp only
  cases (cv s).2.2.2.2 with
  | true=>intro hl;have:=beqf hl;omega
  | false=>intro hl;simp at hl
 ·unfold cN
  simp only
  cases (cv s).2.2.2.1 with
  | true=>exact m1
  | false=>exact m2
def mj (b:Int):Bool:=decide (b<1)||(decide (b>255)||(az .and .i64 b (i64.wrap (b-1)) !=0))
theorem AP {b:Int} (h:mj b=false):b∈dO:=by
 simp only [mj,Bool.or_eq_false_iff,decide_eq_false_iff_not] at h
 have:=Jl ⟨b.toNat,by omega⟩
 simp only [show ((b.toNat:Nat):Int)=b from by omega,Bool.or_eq_true,decide_eq_true_eq,List.contains_iff_mem] at this
 rcases this with (h1 | h1) | h1
 ·omega
 ·rw [h.2.2] at h1;simp at h1
 ·exact h1
def bj (b:Int) (on:Bool) (s:Sc):Sc:=
 bif (b==128) && !((az .and .i64 s.modes b !=0)==on) then
  (bif on then { bG s with main:=s.grid,grid:=dE s.rows.toNat s.cols.toNat (0,0,0) } else { s with grid:=s.main,main:=[] }) else s
def setM (b:Int) (on:Bool) (s:Sc):Sc:={ s with modes:=bif on then gN s.modes b else gr s.modes b }
def mz (b:Int) (on:Bool) (s:Sc):Sc:=
 bif mj b then s
 else bif b==2 then { setM b on (bj b on s) with row:=(iB 0 0 s.rows s.cols s.top s.bottom (setM b on s).modes).1,col:=(iB 0 0 s.rows s.cols s.top s.bottom (setM b on s).modes).2,late:=false }
 else bif b==128 then (bif (az .and .i64 s.modes b !=0) && !on then cN (setM b on (bj b on s)) else { setM b on (bj b on s) with late:=false })
 else setM b on (bj b on s)
end Go.SH
namespace Go.SH
open IntKind (i64 u64 i32 u8)
theorem wasB {s:Sc}:(az .and .i64 s.modes 128 !=0)=aU s.modes:=rfl
theorem wV {b:Int} (h:(b==128)=false) (on:Bool) (s:Sc):bj b on s=s:=by unfold bj;rw [h];rfl
theorem oo {s:Sc} {R C:Nat} (h:OkS s R C) {b:Int} (hb:b∈dO) (on:Bool):OkS (setM b on (bj b on s)) R C:=by
 obtain ⟨m1,m2,m3⟩:=Hd h.md hb
 have hmd:0<=(bif on then gN s.modes b else gr s.modes b)/\(bif on then gN s.modes b else gr s.modes b)<=255:=by
  cases on with
  | true=>exact m1
  | false=>exact m2
 cases h128:(b==128) with
 | false=>
  rw [wV h128]
  obtain ⟨o1,o2⟩:=m3 (by simpa using h128)
  refine ⟨h.hr,h.hc,h.sz,h.g,?_,h.row,h.col,h.late,h.top,h.bot,h.tb,hmd,h.pen,h.s0,h.s1,h.ti,h.tabs⟩
  have:aU (setM b on s).modes=aU s.modes:=by
   unfold setM
   cases on with
   | true=>exact o1
   | false=>exact o2
  rw [this];exact h.m
 | true=>
  have hb':b=128:=beqf h128
  subst hb'
  obtain ⟨o1,o2⟩:=KH h.md
  have hs:=h.sz
  unfold bj
  rw [wasB]
  simp only [beq_self_eq_true,Bool.true_and]
  cases ho:aU s.modes with
  | true=>
   cases on with
   | true=>
    exact ⟨h.hr,h.hc,h.sz,h.g,.inl ⟨o1,by
     rcases h.m with ⟨_,m⟩ | ⟨m,_⟩
     ·exact m
     ·rw [ho] at m;simp at m⟩,h.row,h.col,h.late,h.top,h.bot,h.tb,hmd,h.pen,h.s0,h.s1,h.ti,h.tabs⟩
   | false=>
    have hm:gok s.main R C:=by
     rcases h.m with ⟨_,m⟩ | ⟨m,_⟩
     ·exact m
     ·rw [ho] at m;simp at m
    exact ⟨h.hr,h.hc,h.sz,hm,.inr ⟨o2,rfl⟩,h.row,h.col,h.late,h.top,h.bot,h.tb,hmd,h.pen,h.s0,h.s1,h.ti,h.tabs⟩
  | false=>
   cases on with
   | true=>
    have k:=BY h
    have hg:gok (dE s.rows.toNat s.cols.toNat (0,0,0)) R C:=by
     rw [h.hr,h.hc];exact yp (by decide) h.sz
    have e1:(bG s).rows=s.rows:=by unfold bG;cases aU s.modes <;> rfl
    have e2:(bG s).modes=s.modes:=by unfold bG;cases aU s.modes <;> rfl
    refine ⟨k.hr,k.hc,h.sz,hg,.inl ⟨?_,h.g⟩,k.row,k.col,k.late,k.top,k.bot,k.tb,?_,k.pen,k.s0,k.s1,k.ti,k.tabs⟩
    ·show aU (gN (bG s).modes 128)=true
     rw [e2];exact o1
    ·show 0<=gN (bG s).modes 128/\gN (bG s).modes 128<=255
     rw [e2];exact hmd
   | false=>
    exact ⟨h.hr,h.hc,h.sz,h.g,.inr ⟨o2,by
     rcases h.m with ⟨m,_⟩ | ⟨_,m⟩
     ·rw [ho] at m;simp at m
     ·exact m⟩,h.row,h.col,h.late,h.top,h.bot,h.tb,hmd,h.pen,h.s0,h.s1,h.ti,h.tabs⟩
theorem Hg {s:Sc} {R C:Nat} (h:OkS s R C) (b:Int) (on:Bool):OkS (mz b on s) R C:=by
 unfold mz
 cases hbad:mj b with
 | true=>exact h
 | false=>
  have hb:=AP hbad
  have k:=oo h hb on
  simp only [cond_false]
  cases h2:(b==2) with
  | true=>
   have hR:=h.hr;have hC:=h.hc
   have hsz:=h.sz
   unfold szR at hsz
   obtain ⟨q1,q2,q3⟩:=tT (row:=0) (col:=0) h.sz h.env.etop h.env.etb h.env.ebot (by omega) (setM b on s).modes
   rw [<-hR,<-hC] at q2 q3
   exact ⟨k.hr,k.hc,k.sz,k.g,k.m,by simp only [cond_true];omega,by simp only [cond_true];omega,by intro hl;simp at hl,k.top,k.bot,k.tb,k.md,k.pen,k.s0,k.s1,k.ti,k.tabs⟩
  | false=>
   simp only [cond_false]
   cases h128:(b==128) with
   | false=>exact k
   | true=>
    simp only [cond_true]
    cases ((az .and .i64 s.modes b !=0) && !on) with
    | true=>exact vC k
    | false=>exact ⟨k.hr,k.hc,k.sz,k.g,k.m,k.row,k.col,by intro hl;simp at hl,k.top,k.bot,k.tb,k.md,k.pen,k.s0,k.s1,k.ti,k.tabs⟩
def Sc.md9 (s:Sc):aA×aA×Int×Int×Bool×Int×Int×Int×Int×Int×Int×Int×Int×Int×Bool×Bool×Int×Int×Int×Int×Int×Bool×Bool:=
 (s.grid,s.main,s.row,s.col,s.late,s.pen.1,s.pen.2.1,s.pen.2.2,s.modes,s.sv0.1,s.sv0.2.1,s.sv0.2.2.1.1,s.sv0.2.2.1.2.1,s.sv0.2.2.1.2.2,s.sv0.2.2.2.1,s.sv0.2.2.2.2,
 s.sv1.1,s.sv1.2.1,s.sv1.2.2.1.1,s.sv1.2.2.1.2.1,s.sv1.2.2.1.2.2,s.sv1.2.2.2.1,s.sv1.2.2.2.2)
theorem IW {s:Sc} {R C:Nat} (h:OkS s R C) (b:Int) (on:Bool):fB b on s.rows s.cols s.row s.col s.late s.pen.1 s.pen.2.1 s.pen.2.2 s.top s.bottom s.modes s.sv0.1 s.sv0.2.1 s.sv0.2.2.1.1 s.sv0.2.2.1.2.1 s.sv0.2.2.1.2.2 s.sv0.2.2.2.1 s.sv0.2.2.2.2
  s.sv1.1 s.sv1.2.1 s.sv1.2.2.1.1 s.sv1.2.2.1.2.1 s.sv1.2.2.1.2.2 s.sv1.2.2.2.1 s.sv1.2.2.2.2 s.grid s.main s.title=some (mz b on s).md9:=by
 have hs:=h.sz
 unfold szR at hs
 have hR:=h.hr;have hC:=h.hc
 unfold fB mz
 have e0:(bif decide (b<1) then some true else bif decide (b>255) then some true else bif (az .and .i64 b (i64.wrap (b-1))) !=0 then some true else some false:Option Bool)=some (mj b):=by
  unfold mj
  cases decide (b<1) <;> cases decide (b>255) <;> cases (az .and .i64 b (i64.wrap (b-1)) !=0) <;> rfl
 rw [e0]
 simp only [Option.bind_some]
 cases hbad:mj b with
 | true=>simp only [cond_true,rleq,aJ];rfl
 | false=>
  have hb:=AP hbad
  simp only [bt]
  simp only [cond_false,bt2,Option.bind_some,rleq,aJ,Bool.and_true]
  rw [EC s]
  have eBl:gb s.rows s.cols (0,0,0)=some (dE s.rows.toNat s.cols.toNat (0,0,0)):=by
   rw [hR,hC,p9,gU (by omega) (by omega) (by decide)];rfl
  rw [eBl]
  simp only [Option.bind_some,rleq,aJ]
  have e1:(bif (b==128) && !((az .and .i64 s.modes b !=0)==on) then bif on then some (dE s.rows.toNat s.cols.toNat (0,0,0),s.grid,(bG s).sv.1,(bG s).sv.2.1,(bG s).sv.2.2.1,(bG s).sv.2.2.2.1,(bG s).sv.2.2.2.2.1,(bG s).sv.2.2.2.2.2.1,(bG s).sv.2.2.2.2.2.2.1,(bG s).sv.2.2.2.2.2.2.2.1,(bG s).sv.2.2.2.2.2.2.2.2.1,(bG s).sv.2.2.2.2.2.2.2.2.2.1,(bG s).sv.2.2.2.2.2.2.2.2.2.2.1,(bG s).sv.2.2.2.2.2.2.2.2.2.2.2.1,(bG s).sv.2.2.2.2.2.2.2.2.2.2.2.2.1,(bG s).sv.2.2.2.2.2.2.2.2.2.2.2.2.2)
    else some (s.main,[],s.sv0.1,s.sv0.2.1,s.sv0.2.2.1.1,s.sv0.2.2.1.2.1,s.sv0.2.2.1.2.2,s.sv0.2.2.2.1,s.sv0.2.2.2.2,s.sv1.1,s.sv1.2.1,s.sv1.2.2.1.1,s.sv1.2.2.1.2.1,s.sv1.2.2.1.2.2,s.sv1.2.2.2.1,s.sv1.2.2.2.2)
   else some (s.grid,s.main,s.sv0.1,s.sv0.2.1,s.sv0.2.2.1.1,s.sv0.2.2.1.2.1,s.sv0.2.2.1.2.2,s.sv0.2.2.2.1,s.sv0.2.2.2.2,s.sv1.1,s.sv1.2.1,s.sv1.2.2.1.1,s.sv1.2.2.1.2.1,s.sv1.2.2.1.2.2,s.sv1.2.2.2.1,s.sv1.2.2.2.2):Option (aA×aA×Int×Int×Int×Int×Int×Bool×Bool×Int×Int×Int×Int×Int×Bool×Bool))=some ((bj b on s).grid,(bj b on s).main,(bj b on s).sv):=by
   unfold bj
   cases ((b==128) && !((az .and .i64 s.modes b !=0)==on)) with
   | false=>rfl
   | true=>cases on <;> rfl
  rw [e1]
  simp only [Option.bind_some]
  have e2:(bif on then some (az .or .i64 (az .andNot .i64 s.modes b) b) else some (az .andNot .i64 s.modes b):Option Int)=some (setM b on s).modes:=by cases on <;> rfl
  rw [e2]
  simp only [Option.bind_some]
  have f0:∀x:Sc,(bj b on s).rows=s.rows/\(bj b on s).cols=s.cols/\(bj b on s).row=s.row/\(bj b on s).col=s.col/\(bj b on s).late=s.late/\(bj b on s).pen=s.pen/\(bj b on s).modes=s.modes:=fun _=>by
   unfold bj bG
   cases ((b==128) && !((az .and .i64 s.modes b !=0)==on)) <;> cases on <;> cases aU s.modes <;> exact ⟨rfl,rfl,rfl,rfl,rfl,rfl,rfl⟩
  obtain ⟨f1,f2,f3,f4,f5,f6,f7⟩:=f0 s
  have fm:(setM b on (bj b on s)).modes=(setM b on s).modes:=by unfold setM;simp only [f7]
  cases h2:(b==2) with
  | true=>
   simp only [cond_true]
   obtain ⟨q1,_,_⟩:=tT (row:=0) (col:=0) h.sz h.env.etop h.env.etb h.env.ebot (by omega) (setM b on s).modes
   rw [<-hR,<-hC] at q1
   rw [q1]
   simp only [Option.bind_some]
   unfold Sc.md9
   simp only [fm]
   have g1:(setM b on (bj b on s)).pen=s.pen:=f6
   rw [g1];rfl
  | false=>
   simp only [cond_false]
   cases h128:(b==128) with
   | false=>
    simp only [cond_false]
    unfold Sc.md9
    have g1:(setM b on (bj b on s)).pen=s.pen:=f6
    have g2:(setM b on (bj b on s)).row=s.row:=f3
    have g3:(setM b on (bj b on s)).col=s.col:=f4
    have g4:(setM b on (bj b on s)).late=s.late:=f5
    rw [g1,g2,g3,g4,fm];rfl
   | true=>
    simp only [cond_true]
    cases hw:((az .and .i64 s.modes b !=0) && !on) with
    | true=>
     simp only [cond_true]
     have k:=oo h hb on
     have hre:=xf (s:=setM b on (bj b on s)) (R:=R) (C:=C) k.hr k.hc h.sz (bj b on s).grid (bj b on s).main s.title
     have g1:(setM b on (bj b on s)).rows=s.rows:=f1
     have g2:(setM b on (bj b on s)).cols=s.cols:=f2
     rw [g1,g2,fm] at hre
     have hre':bX s.rows s.cols (setM b on s).modes (bj b on s).sv.1 (bj b on s).sv.2.1 (bj b on s).sv.2.2.1 (bj b on s).sv.2.2.2.1 (bj b on s).sv.2.2.2.2.1 (bj b on s).sv.2.2.2.2.2.1 (bj b on s).sv.2.2.2.2.2.2.1 (bj b on s).sv.2.2.2.2.2.2.2.1 (bj b on s).sv.2.2.2.2.2.2.2.2.1 (bj b on s).sv.2.2.2.2.2.2.2.2.2.1 (bj b on s).sv.2.2.2.2.2.2.2.2.2.2.1 (bj b on s).sv.2.2.2.2.2.2.2.2.2.2.2.1 (bj b on s).sv.2.2.2.2.2.2.2.2.2.2.2.2.1 (bj b on s).sv.2.2.2.2.2.2.2.2.2.2.2.2.2 (bj b on s).grid (bj b on s).main s.title=_:=hre
     rw [hre']
     simp only [Option.bind_some]
     rfl
    | false=>
     simp only [cond_false]
     unfold Sc.md9
     have g1:(setM b on (bj b on s)).pen=s.pen:=f6
     have g2:(setM b on (bj b on s)).row=s.row:=f3
     have g3:(setM b on (bj b on s)).col=s.col:=f4
     simp only [fm]
     rw [g1,g2,g3];rfl
def lf (acc:List Int) (x:Int):List Int:=bif decide (ae x>0)&&decide ((acc.length:Int)<60) then acc++[x] else acc
def Ai (l:List Int):List Int:=l.foldl lf []
theorem rq {acc:List Int} (h:cF acc=true) (x:Int):cF (lf acc x)=true:=by
 unfold lf
 cases hc:(decide (ae x>0)&&decide ((acc.length:Int)<60)) with
 | false=>exact h
 | true=>
  simp only [Bool.and_eq_true,decide_eq_true_eq] at hc
  simp only [cF,Bool.and_eq_true,decide_eq_true_eq] at h
  simp only [cond_true,cF,Bool.and_eq_true,decide_eq_true_eq,List.length_append,List.length_singleton,List.all_append,List.all_cons,List.all_nil,Bool.and_true]
  exact ⟨by omega,h.2,by omega⟩
theorem zz:∀(l acc:List Int),cF acc=true->cF (l.foldl lf acc)=true
 | [],acc,h=>h
 | x::r,acc,h=>zz r _ (rq h x)
theorem Dj (l:List Int):cF (Ai l)=true:=zz l [] rfl
theorem wQ {ch:ChT} (hb:ch.2.2.2.2.2.length<=1000000):∀(m i:Nat) (acc:List Int),i+m=ch.2.2.2.2.2.length->cF acc=true->ap (aZ ch) ((i:Int),acc)=some ((ch.2.2.2.2.2.drop i).foldl lf acc)
 | 0,i,acc,h,ha=>by
  have e:i=ch.2.2.2.2.2.length:=by omega
  rw [aj]
  have:aZ ch ((i:Int),acc)=some (.inl acc):=by
   unfold aZ
   simp only [bt,Option.bind_some]
   rw [au (by omega:¬(i:Int)<(ch.2.2.2.2.2.length:Int))]
   simp only [cond_false,rleq,aJ]
  rw [this,e,List.drop_length]
  rfl
 | m+1,i,acc,h,ha=>by
  have hi:i<ch.2.2.2.2.2.length:=by omega
  have hac:acc.length<=60:=by
   simp only [cF,Bool.and_eq_true,decide_eq_true_eq] at ha;exact ha.1
  rw [aj,List.drop_eq_getElem_cons hi]
  have:aZ ch ((i:Int),acc)=some (.inr (((i+1:Nat):Int),lf acc ch.2.2.2.2.2[i])):=by
   unfold aZ
   simp only [bt]
   simp only [bt2,Option.bind_some,jk,rleq,aJ,Bool.and_true]
   rw [ao (by omega:(i:Int)<(ch.2.2.2.2.2.length:Int)),aP,List.getElem?_eq_getElem hi]
   simp only [cond_true,Option.bind_some]
   have e:(bif decide (ae ch.2.2.2.2.2[i]>0)&&decide ((acc.length:Int)<60) then req ((acc++[ch.2.2.2.2.2[i]]).length*4<=aS) (some (acc++[ch.2.2.2.2.2[i]])) else some acc:Option (List Int))=some (lf acc ch.2.2.2.2.2[i]):=by
    unfold lf
    rw [ac (by simp only [List.length_append,List.length_singleton];unfold aS;omega)]
    cases (decide (ae ch.2.2.2.2.2[i]>0)&&decide ((acc.length:Int)<60)) <;> rfl
   rw [e]
   simp only [Option.bind_some]
   rw [ag (by omega)];rfl
  rw [this]
  exact wQ hb m (i+1) _ (by omega) (rq ha _)
def nM (R C:Int):Sc:=⟨R,C,dE R.toNat C.toNat (0,0,0),[],0,0,false,(0,0,0),0,R-1,9,m9,m9,ne C.toNat,[]⟩
theorem Cm {R C:Nat} (h:szR R C):OkS (nM R C) R C:=by
 have hs:=h
 unfold szR at hs
 exact ⟨rfl,rfl,h,yp (by decide) h,.inr ⟨(by decide +kernel:aU 9=false),rfl⟩,by simp only [nM];omega,by simp only [nM];omega,by intro hl;simp [nM] at hl,by simp only [nM];omega,by simp only [nM];omega,by simp only [nM];omega,by simp [nM],(by decide +kernel:aO (0,0,0)=true),(by decide +kernel:dT m9=true),(by decide +kernel:dT m9=true),rfl,Gv hs.2.2.2⟩
def vB (n:Int) (s:Sc):Sc:=
 bif n==0 then { s with tabs:=(gx s.tabs s.col).getD (0,0,0,0) } else bif n==1 then { s with tabs:=(gi s.tabs s.col).getD (0,0,0,0) } else bif n==2 then { s with tabs:=(0,0,0,0) } else s
def ek (ch:ChT) (s:Sc):Sc:=
 {s with grid:=(nN ch s.rows s.cols s.row s.col false s.pen s.top s.bottom s.modes s.tabs s.grid).1,row:=(nN ch s.rows s.cols s.row s.col false s.pen s.top s.bottom s.modes s.tabs s.grid).2.1,col:=(nN ch s.rows s.cols s.row s.col false s.pen s.top s.bottom s.modes s.tabs s.grid).2.2.1,late:=false }
def rD (c:Int) (s:Sc):Sc:=
 {s with grid:=(ko s.rows s.cols s.row s.col s.late s.top s.bottom s.modes s.pen s.grid c).1,row:=(ko s.rows s.cols s.row s.col s.late s.top s.bottom s.modes s.pen s.grid c).2.1,col:=(ko s.rows s.cols s.row s.col s.late s.top s.bottom s.modes s.pen s.grid c).2.2.1,late:=(ko s.rows s.cols s.row s.col s.late s.top s.bottom s.modes s.pen s.grid c).2.2.2 }
def ue (ch:ChT) (s:Sc):Sc:=
 bif ch.1==1 then rD ch.2.2.2.1 s
 else bif ch.1==25 then { s with pen:=pZ s.pen ch.2.2.2.2.1 }
 else bif ch.1==26 then { s with title:=Ai ch.2.2.2.2.2 }
 else bif ch.1==10 then vB ch.2.1 s
 else bif ch.1==21 then bG s
 else bif ch.1==20 then mz ch.2.1 (ch.2.2.1 !=0) s
 else bif ch.1==22 then cN s
 else bif ch.1==24 then nM s.rows s.cols
 else bif decide (ch.1>=1)&&decide (ch.1<=27) then gG ch (ek ch s)
 else s
def chL (ch:ChT):Prop:=ch.2.2.2.2.1.length<=1000000/\ch.2.2.2.2.2.length<=1000000
theorem zV {s:Sc} {R C:Nat} (h:OkS s R C) {ch:ChT} (hn:chN ch) (hl:chL ch):chgS ch s=some (ue ch s).f/\C2 ch (ue ch s) R C:=by
 have hs:=h.sz
 unfold szR at hs
 have hR:=h.hr;have hC:=h.hc
 unfold chgS cW ue
 simp only [bt]
 simp only [bt2,Option.bind_some,rleq,aJ,Bool.and_true]
 cases h1:(ch.1==1) with
 | true=>
  have q:=G0 h.env h.inG (late:=s.late) s.modes ch.2.2.2.1 s.main s.title
  obtain ⟨⟨q1,q2,q3⟩,q4⟩:=FF h.env h.inG h.late s.modes ch.2.2.2.1
  rw [<-hR,<-hC] at q q1 q2 q3 q4
  simp only [cond_true]
  rw [q]
  refine ⟨rfl,iz ⟨h.hr,h.hc,h.sz,?_,h.m,?_,?_,?_,h.top,h.bot,h.tb,h.md,h.pen,h.s0,h.s1,h.ti,h.tabs⟩⟩
  ·rw [hR,hC] at q1;unfold rD;rw [hR,hC];exact q1
  ·unfold rD;simp only at q2 ⊢;omega
  ·unfold rD;simp only at q3 ⊢;omega
  ·intro hl;have:=q4 hl;unfold rD;simp only at this ⊢;omega
 | false=>
 simp only [cond_false]
 cases h2:(ch.1==25) with
 | true=>
  simp only [cond_true]
  have:nB (s.pen.1,s.pen.2.1,s.pen.2.2) ch.2.2.2.2.1=some (pZ s.pen ch.2.2.2.2.1):=Il h.pen (by have:=hl.1;omega)
  rw [this]
  exact ⟨rfl,iz ⟨h.hr,h.hc,h.sz,h.g,h.m,h.row,h.col,h.late,h.top,h.bot,h.tb,h.md,Ee h.pen _,h.s0,h.s1,h.ti,h.tabs⟩⟩
 | false=>
 simp only [cond_false]
 cases h3:(ch.1==26) with
 | true=>
  simp only [cond_true]
  have:ap (aZ ch) (0,[])=some (Ai ch.2.2.2.2.2):=wQ hl.2 ch.2.2.2.2.2.length 0 [] (by omega) rfl
  rw [this]
  exact ⟨rfl,iz ⟨h.hr,h.hc,h.sz,h.g,h.m,h.row,h.col,h.late,h.top,h.bot,h.tb,h.md,h.pen,h.s0,h.s1,Dj _,h.tabs⟩⟩
 | false=>
 simp only [cond_false]
 have ktab:∀{t:TabT},bk t->C2 ch { s with tabs:=t } R C:=fun ht=>iz ⟨h.hr,h.hc,h.sz,h.g,h.m,h.row,h.col,h.late,h.top,h.bot,h.tb,h.md,h.pen,h.s0,h.s1,h.ti,ht⟩
 cases h4:(ch.1==10) with
 | true=>
  simp only [cond_true]
  unfold vB
  cases ch.2.1==0 with
  | true=>
   obtain ⟨t,t1,t2⟩:=Id h.tabs s.col
   have:gx (s.tabs.1,s.tabs.2.1,s.tabs.2.2.1,s.tabs.2.2.2) s.col=some t:=t1
   rw [this]
   exact ⟨rfl,ktab t2⟩
  | false=>
   cases ch.2.1==1 with
   | true=>
    obtain ⟨t,t1,t2⟩:=Ij h.tabs s.col
    have:gi (s.tabs.1,s.tabs.2.1,s.tabs.2.2.1,s.tabs.2.2.2) s.col=some t:=t1
    rw [this]
    exact ⟨rfl,ktab t2⟩
   | false=>
    cases ch.2.1==2 with
    | true=>exact ⟨rfl,ktab qd⟩
    | false=>exact ⟨rfl,iz h⟩
 | false=>
 simp only [cond_false]
 cases h5:(ch.1==21) with
 | true=>
  simp only [cond_true]
  rw [EC s]
  have e:(bG s).f=(s.grid,s.main,s.title,s.rows,s.cols,s.row,s.col,s.late,s.pen.1,s.pen.2.1,s.pen.2.2,s.top,s.bottom,s.modes,(bG s).sv.1,(bG s).sv.2.1,(bG s).sv.2.2.1,(bG s).sv.2.2.2.1,(bG s).sv.2.2.2.2.1,(bG s).sv.2.2.2.2.2.1,(bG s).sv.2.2.2.2.2.2.1,(bG s).sv.2.2.2.2.2.2.2.1,(bG s).sv.2.2.2.2.2.2.2.2.1,(bG s).sv.2.2.2.2.2.2.2.2.2.1,(bG s).sv.2.2.2.2.2.2.2.2.2.2.1,(bG s).sv.2.2.2.2.2.2.2.2.2.2.2.1,(bG s).sv.2.2.2.2.2.2.2.2.2.2.2.2.1,(bG s).sv.2.2.2.2.2.2.2.2.2.2.2.2.2,s.tabs.1,s.tabs.2.1,s.tabs.2.2.1,s.tabs.2.2.2):=by
   unfold bG
   cases aU s.modes <;> rfl
  rw [e]
  exact ⟨rfl,iz (BY h)⟩
 | false=>
 simp only [cond_false]
 cases h6:(ch.1==20) with
 | true=>
  simp only [cond_true]
  rw [IW h]
  have f0:(mz ch.2.1 (ch.2.2.1 !=0) s).rows=s.rows/\(mz ch.2.1 (ch.2.2.1 !=0) s).cols=s.cols/\(mz ch.2.1 (ch.2.2.1 !=0) s).top=s.top/\(mz ch.2.1 (ch.2.2.1 !=0) s).bottom=s.bottom/\(mz ch.2.1 (ch.2.2.1 !=0) s).tabs=s.tabs/\(mz ch.2.1 (ch.2.2.1 !=0) s).title=s.title:=by
   unfold mz
   cases mj ch.2.1 with
   | true=>exact ⟨rfl,rfl,rfl,rfl,rfl,rfl⟩
   | false=>
    unfold bj bG
    cases ((ch.2.1==128) && !((az .and .i64 s.modes ch.2.1 !=0)==(ch.2.2.1 !=0))) <;> cases (ch.2.2.1 !=0) <;> cases aU s.modes <;> cases (ch.2.1==2) <;> cases (ch.2.1==128) <;> cases (az .and .i64 s.modes ch.2.1 !=0) <;> exact ⟨rfl,rfl,rfl,rfl,rfl,rfl⟩
  obtain ⟨f1,f2,f3,f4,f5,f6⟩:=f0
  refine ⟨?_,iz (Hg h _ _)⟩
  unfold Sc.f
  rw [f1,f2,f3,f4,f5,f6]
  rfl
 | false=>
 simp only [cond_false]
 cases h7:(ch.1==22) with
 | true=>
  simp only [cond_true]
  rw [xf hR hC h.sz]
  exact ⟨rfl,iz (vC h)⟩
 | false=>
 simp only [cond_false]
 cases h8:(ch.1==24) with
 | true=>
  simp only [cond_true]
  have e:jM s.rows s.cols=some (s.rows,s.cols,s.rows-1,9,(ne C).1,(ne C).2.1,(ne C).2.2.1,(ne C).2.2.2,0,dE R C (0,0,0)):=by
   unfold jM
   rw [hR,hC,p9,gU (by omega) (by omega) (by decide)]
   simp only [Option.bind_some,bt]
   have e:((((dE R C (0,0,0)).length:Nat):Int)==0)=false:=by
    unfold dE;simp;omega
   erw [e]
   simp only [cond_false,Option.bind_some]
   rw [kE (by omega)]
   simp only [Option.bind_some,rleq,aJ]
   rw [ag (by omega)]
  rw [e]
  refine ⟨?_,?_⟩
  ·simp only [Option.bind_some]
   unfold nM
   rw [hR,hC]
   rfl
  ·have:=Cm h.sz
   rw [hR,hC]
   exact iz this
 | false=>
 simp only [cond_false]
 cases h9:(decide (ch.1>=1)&&decide (ch.1<=27)) with
 | true=>
  simp only [cond_true]
  obtain ⟨q1,⟨q2,q3,q4⟩,q5⟩:=IV h.env h.inG h.tabs hn s.modes s.main s.title
  have hms:OkS (ek ch s) R C:=by
   refine ⟨h.hr,h.hc,h.sz,?_,h.m,?_,?_,by intro hl;simp [ek] at hl,h.top,h.bot,h.tb,h.md,h.pen,h.s0,h.s1,h.ti,h.tabs⟩
   ·unfold ek;rw [hR,hC];exact q2
   ·unfold ek;rw [hR,hC];exact q3
   ·unfold ek;rw [hR,hC];exact q4
  rw [<-hR,<-hC] at q1 q5
  rw [q1]
  simp only [Option.bind_some]
  rw [q5]
  obtain ⟨e1,e2⟩:=Jb hms rfl hn
  have e1':dJ ch s.rows s.cols (nN ch s.rows s.cols s.row s.col false s.pen s.top s.bottom s.modes s.tabs s.grid).2.1 (nN ch s.rows s.cols s.row s.col false s.pen s.top s.bottom s.modes s.tabs s.grid).2.2.1 false s.pen.1 s.pen.2.1 s.pen.2.2 s.top s.bottom s.modes s.sv0.1 s.tabs.1 s.tabs.2.1 s.tabs.2.2.1 s.tabs.2.2.2 (nN ch s.rows s.cols s.row s.col false s.pen s.top s.bottom s.modes s.tabs s.grid).1 s.main s.title=some (gG ch (ek ch s)).e:=e1
  rw [e1']
  refine ⟨?_,e2⟩
  have f0:(gG ch (ek ch s)).pen=s.pen/\(gG ch (ek ch s)).modes=s.modes/\(gG ch (ek ch s)).sv0=s.sv0/\(gG ch (ek ch s)).sv1=s.sv1/\(gG ch (ek ch s)).title=s.title:=by
   unfold gG
   cases ch.1==11 <;> cases ch.1==12 <;> cases ch.1==13 <;> first
    | exact ⟨rfl,rfl,rfl,rfl,rfl⟩
    | (cases ch.1==14 <;> cases ch.1==15 <;> cases ((ch.1==16)||(ch.1==17)) <;> first
      | exact ⟨rfl,rfl,rfl,rfl,rfl⟩
      | (cases (decide ((ek ch s).row<(ek ch s).top)||decide ((ek ch s).row>(ek ch s).bottom)) <;> exact ⟨rfl,rfl,rfl,rfl,rfl⟩)
      | (cases ch.1==18 <;> cases ch.1==19 <;> cases ch.1==23 <;> cases ch.1==27 <;> first
        | exact ⟨rfl,rfl,rfl,rfl,rfl⟩
        | (cases (decide (ch.2.1>=0)&&(decide (ch.2.1<ch.2.2.1)&&decide (ch.2.2.1<(ek ch s).rows))) <;> exact ⟨rfl,rfl,rfl,rfl,rfl⟩)))
  obtain ⟨f1,f2,f3,f4,f5⟩:=f0
  simp only [Option.bind_some]
  unfold Sc.f
  rw [f1,f2,f3,f4,f5]
  rfl
 | false=>exact ⟨rfl,iz h⟩
end Go.SH
namespace Go.SH
open IntKind (i64 u64 i32 u8)
def oneM (s:Sc) (ch:ChT):Sc:=ue (jt ch) s
def E3 (l:List ChT) (s:Sc):Sc:=l.foldl oneM s
theorem uR (ch:ChT):(jt ch).1=ch.1:=by
 unfold jt
 cases ((ch.1 !=20)&&(ch.1 !=27)) <;> rfl
theorem IT (ch:ChT):(jt ch).2.2.2=ch.2.2.2:=by
 unfold jt
 cases ((ch.1 !=20)&&(ch.1 !=27)) <;> rfl
theorem ES (ch:ChT):chN (jt ch):=by
 intro h1 h2
 rw [uR] at h1 h2
 have e:((ch.1 !=20)&&(ch.1 !=27))=true:=by simp [h1,h2]
 have b1:=eQ (n:=ch.2.1) (lo:=-1000) (hi:=1000) (by omega)
 have b2:=eQ (n:=ch.2.2.1) (lo:=-1000) (hi:=1000) (by omega)
 unfold jt
 rw [e]
 exact ⟨b1,b2⟩
theorem EU {ch:ChT} (h:chL ch):chL (jt ch):=by
 unfold chL at *
 rw [IT];exact h
theorem EM {s:Sc} {R C:Nat} (h:OkS s R C) {ch:ChT} (hl:chL ch):C2 ch (oneM s ch) R C:=by
 obtain ⟨_,R',C',h1,h2⟩:=zV h (ES ch) (EU hl)
 rw [uR] at h2
 exact ⟨R',C',h1,h2⟩
theorem Cy:∀(l:List ChT) {s:Sc} {R C:Nat},OkS s R C->(∀ch∈l,chL ch)->vL l s.t=some (E3 l s).t/\∃R' C',OkS (E3 l s) R' C'
 | [],s,R,C,h,_=>⟨rfl,R,C,h⟩
 | ch::r,s,R,C,h,hl=>by
  obtain ⟨h1,R',C',h2,_⟩:=zV h (ES ch) (EU (hl ch (by simp)))
  have:=Cy r h2 (fun c hc=>hl c (by simp [hc]))
  unfold vL
  rw [KU,h1]
  simp only [Option.bind_some,Gx]
  exact this
theorem K3 {s:Sc} {R C:Nat} (h:OkS s R C) {l:List ChT} (hb:l.length<=1000000) (hl:∀ch∈l,chL ch):gI s.t l=some (E3 l s).t/\∃R' C',OkS (E3 l s) R' C':=by
 rw [Mu h.may hb]
 exact Cy l h hl
theorem K4 {s:Sc} {R C:Nat} (h:OkS s R C) {ch:ChT} (hl:chL ch):gI s.t [ch]=some (oneM s ch).t:=(K3 h (l:=[ch]) (by simp) (by simpa using hl)).1
instance lineDec:DecidableEq (List ak):=@instDecidableEqList ak inferInstance
instance gridDec:DecidableEq aA:=@instDecidableEqList (List ak) lineDec
theorem Br {α:Type} [DecidableEq α] {a b:List α} (h:a.length=b.length):(List.range a.length).all (fun i=>decide (a[i]?=b[i]?))=decide (a=b):=by
 rw [Bool.eq_iff_iff]
 simp only [List.all_eq_true,List.mem_range,decide_eq_true_eq]
 constructor
 ·intro hh
  refine List.ext_getElem? fun i=>?_
  by_cases hi:i<a.length
  ·exact hh i hi
  ·rw [List.getElem?_eq_none (by omega),List.getElem?_eq_none (by omega)]
 ·rintro rfl i _;rfl
theorem H4 (x y:ak):((x.1==y.1)&&(((x.2.1.1==y.2.1.1)&&((x.2.1.2==y.2.1.2)&&true))&&((x.2.2.1==y.2.2.1)&&(((x.2.2.2.1==y.2.2.2.1)&&((x.2.2.2.2.1==y.2.2.2.2.1)&&((x.2.2.2.2.2==y.2.2.2.2.2)&&true)))&&true))))=decide (x=y):=by
 obtain ⟨x1,⟨x2,x3⟩,x4,x5,x6,x7⟩:=x
 obtain ⟨y1,⟨y2,y3⟩,y4,y5,y6,y7⟩:=y
 rw [Bool.eq_iff_iff]
 simp only [Bool.and_eq_true,beq_iff_eq,and_true,decide_eq_true_eq,Prod.mk.injEq,and_assoc]
abbrev big:Nat:=4611686018427387904
theorem wr1 {i n:Nat} (h:i<n) (hn:n<=big):i64.wrap ((i:Int)+1)=((i+1:Nat):Int):=by unfold big at hn;rw [ag (by omega)];rfl
theorem AG {a b:Nat} (h:a≠b):((a:Int) !=(b:Int))=true:=by simp;omega
theorem AH {a b:Nat} (h:a=b):((a:Int) !=(b:Int))=false:=by simp [h]
theorem Bv {a b:List ak} (ha:a.length<=big):kj a b=some (decide (a=b)):=by
 unfold kj
 simp only [bt,Option.bind_some]
 by_cases h:a.length=b.length
 ·rw [AH h]
  simp only [cond_false]
  rw [l8 (step:=d8 a b) (n:=a.length) (ok:=fun i=>decide (a[i]?=b[i]?)) (e:=.inr ()) (b:=.inl ()) (fun i hi=>by
   unfold d8
   rw [ao (by omega:(i:Int)<(a.length:Int))]
   simp only [bt,Option.bind_some,cond_true,aP,List.getElem?_eq_getElem hi,List.getElem?_eq_getElem (h▸hi:i<b.length),H4,Option.some.injEq,wr1 hi ha]
   cases decide (a[i]=b[i]) <;> rfl) (by unfold d8;simp),Br h]
  cases decide (a=b) <;> rfl
 ·rw [AG h,au (fun e=>h (by rw [e]))];rfl
theorem Bu {a b:List Int} (ha:a.length<=big):kg a b=some (decide (a=b)):=by
 unfold kg
 simp only [bt,Option.bind_some]
 by_cases h:a.length=b.length
 ·rw [AH h]
  simp only [cond_false]
  rw [l8 (step:=d7 a b) (n:=a.length) (ok:=fun i=>decide (a[i]?=b[i]?)) (e:=.inr ()) (b:=.inl ()) (fun i hi=>by
   unfold d7
   rw [ao (by omega:(i:Int)<(a.length:Int))]
   simp only [bt,Option.bind_some,cond_true,aP,List.getElem?_eq_getElem hi,List.getElem?_eq_getElem (h▸hi:i<b.length),Option.some.injEq,wr1 hi ha]
   by_cases e:a[i]=b[i]
   ·rw [ao e,e];simp
   ·rw [au e]
    have:(a[i] !=b[i])=true:=by simp [e]
    rw [this];rfl) (by unfold d7;simp),Br h]
  cases decide (a=b) <;> rfl
 ·rw [AG h,au (fun e=>h (by rw [e]))];rfl
def small (g:aA):Prop:=g.length<=big/\∀l∈g,l.length<=big
theorem M6 {a b:aA} (ha:small a):yE a b=some (decide (a=b)):=by
 unfold yE
 simp only [bt,Option.bind_some]
 by_cases h:a.length=b.length
 ·rw [AH h]
  simp only [cond_false]
  rw [l8 (step:=tR a b) (n:=a.length) (ok:=fun i=>decide (a[i]?=b[i]?)) (e:=.inr ()) (b:=.inl ()) (fun i hi=>by
   unfold tR MM
   rw [ao (by omega:(i:Int)<(a.length:Int))]
   simp only [bt,Option.bind_some,cond_true,aP,List.getElem?_eq_getElem hi,List.getElem?_eq_getElem (h▸hi:i<b.length),Option.some.injEq,wr1 hi ha.1]
   rw [Bv (ha.2 _ (List.getElem_mem hi))]
   simp only [Option.bind_some]
   cases decide (a[i]=b[i]) <;> rfl) (by unfold tR;simp),Br h]
  cases decide (a=b) <;> rfl
 ·rw [AG h,au (fun e=>h (by rw [e]))];rfl
theorem MF {a b:aA} (ha:small a):MG [a,b]=some (decide (a=b)):=by
 have e0:getI [a,b] 0=some a:=rfl
 have e1:getI [a,b] 1=some b:=rfl
 have s1:Dy [a,b] 1=some (bif decide (a=b) then .inr 2 else .inl (.inl ())):=by
  unfold Dy
  rw [ao (by simp:(1:Int)<(([a,b]:List aA).length:Int))]
  simp only [bt,Option.bind_some,cond_true]
  erw [e0,e1]
  simp only [Option.bind_some]
  rw [M6 ha]
  simp only [Option.bind_some]
  rw [ag (by omega)]
  cases decide (a=b) <;> rfl
 have s2:Dy [a,b] 2=some (.inl (.inr ())):=by
  unfold Dy
  rw [au (by simp:¬(2:Int)<(([a,b]:List aA).length:Int))]
  rfl
 unfold MG
 rw [aj,s1]
 cases decide (a=b) with
 | false=>rfl
 | true=>
  simp only [cond_true]
  rw [aj,s2]
  rfl
theorem ML {s:ScrT} (h1:small s.2.2.1) (h2:small s.2.2.2.1) (h3:s.2.2.2.2.2.2.2.2.2.2.2.2.2.length<=big):AA s s=some true:=by
 unfold AA
 rw [MF h1,MF h2,Bu h3]
 simp only [decide_true,Option.bind_some,Bool.not_true,cond_false,beq_self_eq_true,Bool.and_true,cond_true]
theorem BU {g:aA} {R C:Nat} (h:gok g R C) (hs:szR R C):small g:=by
 unfold szR at hs
 unfold small big
 refine ⟨by rw [h.1];omega,fun l hl=>by rw [(h.2 l hl).1];omega⟩
theorem uB:small []:=by unfold small;simp
theorem OkS.small {s:Sc} {R C:Nat} (h:OkS s R C):small s.grid/\small s.main/\s.title.length<=big:=by
 refine ⟨BU h.g h.sz,?_,?_⟩
 ·rcases h.m with ⟨_,m⟩ | ⟨_,m⟩
  ·exact BU m h.sz
  ·rw [m];exact uB
 ·have:=h.ti
  simp only [cF,Bool.and_eq_true,decide_eq_true_eq] at this
  unfold big;omega
theorem xV {l:List ChT} (hl:l.length<=120):∀(m i:Nat) (n:Int),i+m=l.length->0<=n/\n<=501*(i:Int)->∃o,ap (bF l) (n,(i:Int))=some o/\(∀x,o = .inr x->∀ch∈l.drop i,ch.2.2.2.2.1.length<=200/\ch.2.2.2.2.2.length<=200)
 | 0,i,n,h,hn=>by
  have e:i=l.length:=by omega
  have:bF l (n,(i:Int))=some (.inl (.inr n)):=by
   unfold bF
   rw [au (by omega:¬(i:Int)<(l.length:Int))]
   rfl
  rw [aj,this]
  refine ⟨_,rfl,fun x _ ch hch=>?_⟩
  rw [e,List.drop_length] at hch
  simp at hch
 | m+1,i,n,h,hn=>by
  have hi:i<l.length:=by omega
  obtain ⟨c,hc⟩:∃c:Bool,bF l (n,(i:Int))=some (bif decide ((l[i].2.2.2.2.1.length:Int)>200)||(decide ((l[i].2.2.2.2.2.length:Int)>200)||c) then .inl (.inl ()) else .inr (i64.wrap ((bif (l[i].1==2)||(l[i].1==9) then i64.wrap (n+500) else n)+1),((i+1:Nat):Int))):=by
   refine ⟨(l[i].1==27)&&(decide (l[i].2.1>30)||decide (l[i].2.2.1>30)),?_⟩
   unfold bF
   rw [ao (by omega:(i:Int)<(l.length:Int))]
   simp only [bt]
   simp only [Option.bind_some,cond_true,aP,List.getElem?_eq_getElem hi,bto,bt2,ag (x:=(i:Int)+1) (by omega)]
   cases (decide ((l[i].2.2.2.2.1.length:Int)>200)||(decide ((l[i].2.2.2.2.2.length:Int)>200)||((l[i].1==27)&&(decide (l[i].2.1>30)||decide (l[i].2.2.1>30))))) with
   | true=>rfl
   | false=>
    cases ((l[i].1==2)||(l[i].1==9)) <;> rfl
  rw [aj,hc]
  cases hb:(decide ((l[i].2.2.2.2.1.length:Int)>200)||(decide ((l[i].2.2.2.2.2.length:Int)>200)||c)) with
  | true=>exact ⟨_,rfl,fun x hx=>by simp at hx⟩
  | false=>
   simp only [Bool.or_eq_false_iff,decide_eq_false_iff_not] at hb
   simp only [cond_false]
   have hn':0<=i64.wrap ((bif (l[i].1==2)||(l[i].1==9) then i64.wrap (n+500) else n)+1)/\i64.wrap ((bif (l[i].1==2)||(l[i].1==9) then i64.wrap (n+500) else n)+1)<=501*((i+1:Nat):Int):=by
    rw [ag (x:=n+500) (by omega)]
    cases ((l[i].1==2)||(l[i].1==9)) with
    | true=>simp only [cond_true];rw [ag (by omega)];omega
    | false=>simp only [cond_false];rw [ag (by omega)];omega
   obtain ⟨o,h1,h2⟩:=xV hl m (i+1) _ (by omega) hn'
   refine ⟨o,h1,fun x hx ch hch=>?_⟩
   rw [List.drop_eq_getElem_cons hi] at hch
   rcases List.mem_cons.1 hch with rfl | hch
   ·omega
   ·exact h2 x hx ch hch
theorem Hq (rows cols:Int) (l:List ChT):∃b,il rows cols l=some b/\(b=false->l.length<=120/\∀ch∈l,chL ch):=by
 unfold il
 have e:∀a b c d x:Bool,(bif a then bif b then some true else bif c then bif d then some true else bif x then some true else some false else bif x then some true else some false
   else bif c then bif d then some true else bif x then some true else some false else bif x then some true else some false:Option Bool)=some ((a&&b)||((c&&d)||x)):=by
  intro a b c d x;cases a <;> cases b <;> cases c <;> cases d <;> cases x <;> rfl
 rw [e]
 simp only [Option.bind_some]
 cases hg:((decide (rows>30)&&decide (rows<=200))||((decide (cols>30)&&decide (cols<=200))||decide ((l.length:Int)>120))) with
 | true=>exact ⟨true,rfl,fun h=>by simp at h⟩
 | false=>
  simp only [Bool.or_eq_false_iff,decide_eq_false_iff_not] at hg
  have hl:l.length<=120:=by omega
  obtain ⟨o,h1,h2⟩:=xV hl l.length 0 0 (by omega) (by omega)
  simp only [cond_false]
  have h1':ap (bF l) (0,0)=some o:=h1
  rw [h1']
  cases o with
  | inl u=>exact ⟨true,rfl,fun h=>by simp at h⟩
  | inr x=>
   refine ⟨_,rfl,fun _=>⟨hl,fun ch hch=>?_⟩⟩
   have:=h2 x rfl ch (by simpa using hch)
   unfold chL;omega
end Go.SH
namespace Go.SH
theorem B0 (a c:Int):∀(l:List Int),runX (kW a c) 0 l=match l.find? (fun x=>decide (a<x/\x<c)) with
  | some x=>(x,some none)
  | none=>(0,none)
 | []=>rfl
 | x::l=>by
  simp only [runX,List.find?_cons]
  by_cases h:a<x/\x<c
  ·have e:kW a c 0 x=(x,some none):=if_pos h
   rw [e,ao h]
  ·have e:kW a c 0 x=(0,none):=if_neg h
   rw [e,au h]
   exact B0 a c l
theorem rV (p:Nat->Bool) (q:Int->Bool):∀(n a:Nat),(((List.range' a n).filter p).map fun (c:Nat)=>(c:Int)).find? q=((List.range' a n).find? fun c=>p c&&q (c:Int)).map fun (c:Nat)=>(c:Int)
 | 0,a=>rfl
 | n+1,a=>by
  rw [List.range'_succ,List.filter_cons,List.find?_cons]
  cases hp:p a with
  | false=>
   simp only [Bool.false_eq_true,if_false,Bool.false_and]
   exact rV p q n (a+1)
  | true=>
   simp only [if_true,List.map_cons,List.find?_cons,Bool.true_and]
   cases hq:q (a:Int) with
   | true=>rfl
   | false=>exact rV p q n (a+1)
theorem tW {R:Type} (q:Nat->Bool) (f:Nat->R):∀(m i:Nat),jZ (fun i=>bif q i then some (f i) else none) i m=((List.range' i m).find? q).map f
 | 0,i=>rfl
 | m+1,i=>by
  rw [List.range'_succ,List.find?_cons]
  unfold jZ
  cases q i with
  | true=>rfl
  | false=>exact tW q f m (i+1)
theorem zD {p:Nat->Bool}:∀(k n a:Nat),(∀c,a+n<=c->p c=false)->(List.range' a (n+k)).find? p=(List.range' a n).find? p
 | k,0,a,h=>by
  rw [Nat.zero_add]
  have:(List.range' a k).find? p=none:=by
   rw [List.find?_eq_none]
   intro x hx
   have:=List.mem_range'_1.1 hx
   rw [h x (by omega)];simp
  rw [this];rfl
 | k,n+1,a,h=>by
  rw [show n+1+k=(n+k)+1 from by omega,List.range'_succ,List.range'_succ,List.find?_cons,List.find?_cons]
  cases p a with
  | true=>rfl
  | false=>exact zD k n (a+1) (fun c hc=>h c (by omega))
def EV (t:TabT) (a C:Nat):Nat:=((List.range' 0 C).find? fun c=>decide (a<c)&&tbit t c).getD (C-1)
theorem Ju {t:TabT} (ht:bk t) {a C:Nat} (hC:1<=C/\C<=200):jm t (a:Int) (C:Int)=some ((EV t a C:Nat):Int):=by
 unfold jm
 rw [vz ht]
 simp only [Option.bind_some,Option.some.injEq]
 have hcc:aR (C:Int)=C:=by
  unfold aR
  rw [if_neg (by omega:¬(200:Int)<C)]
  simp only
  split <;> omega
 rw [hcc]
 unfold vG EW
 rw [B0]
 unfold jo
 rw [rV]
 have e1:(List.range' 0 (200-0)).find? (fun c=>tbit t c&&decide ((a:Int)<(c:Int)/\(c:Int)<(C:Int)))=(List.range' 0 C).find? (fun c=>decide (a<c)&&tbit t c):=by
  rw [show 200-0=C+(200-C) from by omega,zD (200-C) C 0 (fun c hc=>by rw [au (by omega:¬((a:Int)<(c:Int)/\(c:Int)<(C:Int)))];simp)]
  have:∀(l:List Nat),(∀c∈l,c<C)->l.find? (fun c=>tbit t c&&decide ((a:Int)<(c:Int)/\(c:Int)<(C:Int)))=l.find? (fun c=>decide (a<c)&&tbit t c):=by
   intro l
   induction l with
   | nil=>intro _;rfl
   | cons c l ih=>
    intro h
    rw [List.find?_cons,List.find?_cons,ih (fun c hc=>h c (by simp [hc]))]
    have:(tbit t c&&decide ((a:Int)<(c:Int)/\(c:Int)<(C:Int)))=(decide (a<c)&&tbit t c):=by
     have:=h c (by simp)
     rw [Bool.and_comm]
     congr 1
     rw [Bool.eq_iff_iff];simp;omega
    rw [this]
  exact this _ (fun c hc=>by have:=List.mem_range'_1.1 hc;omega)
 rw [e1]
 unfold EV
 cases (List.range' 0 C).find? (fun c=>decide (a<c)&&tbit t c) with
 | some x=>rfl
 | none=>simp only [Option.map_none,Option.getD_none];rw [ag (by omega)];omega
theorem Dt {t:TabT} (ht:bk t) {a C:Nat} (hC:1<=C/\C<=200):fh t (a:Int) (C:Int)=some ((EV t a C:Nat):Int):=by
 unfold fh
 simp only [bt,Option.bind_some]
 rw [au (by omega:¬(C:Int)<1)]
 simp only [cond_false,Option.bind_some]
 rw [au (by omega:¬(C:Int)>200)]
 simp only [cond_false,Option.bind_some]
 have h:=pO (step:=dp (C:Int) (a:Int) t) (n:=C) (P:=fun i=>bif decide (a<i)&&tbit t i then some (.inl (i:Int)) else none) (e:=.inr ()) (fun i hi=>by
  unfold dp
  simp only [bt]
  rw [ao (by omega:(i:Int)<(C:Int)),Ih ht (by omega),ag (by omega)]
  simp only [Option.bind_some,bt2]
  have:decide ((i:Int)>(a:Int))=decide (a<i):=by rw [Bool.eq_iff_iff];simp
  rw [this]
  cases (decide (a<i)&&tbit t i) <;> rfl) (by unfold dp;rw [au (by omega:¬(C:Int)<(C:Int))];rfl) C 0 (by omega)
 have h':ap (dp (C:Int) (a:Int) t) 0=some ((jZ (fun i=>bif decide (a<i)&&tbit t i then some (.inl (i:Int)) else none) 0 C).getD (.inr ())):=h
 rw [h',tW]
 unfold EV
 simp only [Option.bind_some]
 cases (List.range' 0 C).find? (fun c=>decide (a<c)&&tbit t c) with
 | some x=>rfl
 | none=>simp only [Option.map_none,Option.getD_none];rw [ag (by omega)];congr 1;omega
def pY (t:TabT) (a:Nat):Nat->Nat
 | 0=>0
 | c+1=>bif decide (c+1<a)&&tbit t (c+1) then c+1 else pY t a c
theorem Dw {t:TabT} (ht:bk t) {a:Nat}:fp t (a:Int)=some ((pY t a 199:Nat):Int):=by
 have key:∀(c:Nat),c<=199->∃o,ap (cD (a:Int) t) (c:Int)=some o/\(match o with | .inl x=>some x | .inr _=>some 0:Option Int)=some ((pY t a c:Nat):Int):=by
  intro c
  induction c with
  | zero=>
   intro _
   rw [aj]
   have:cD (a:Int) t ((0:Nat):Int)=some (.inl (.inr ())):=rfl
   rw [this]
   exact ⟨_,rfl,rfl⟩
  | succ c ih=>
   intro h
   rw [aj]
   have:cD (a:Int) t ((c+1:Nat):Int)=some (bif decide (c+1<a)&&tbit t (c+1) then .inl (.inl ((c+1:Nat):Int)) else .inr (c:Int)):=by
    unfold cD
    simp only [bt]
    rw [ao (by omega:((c+1:Nat):Int)>0),Ih ht (by omega),ag (by omega)]
    simp only [Option.bind_some,bt2]
    have e:decide (((c+1:Nat):Int)<(a:Int))=decide (c+1<a):=by rw [Bool.eq_iff_iff];simp;omega
    have e2:((c+1:Nat):Int)-1=(c:Int):=by omega
    rw [e,e2]
    cases (decide (c+1<a)&&tbit t (c+1)) <;> rfl
   rw [this]
   unfold pY
   cases (decide (c+1<a)&&tbit t (c+1)) with
   | true=>exact ⟨_,rfl,rfl⟩
   | false=>exact ih (by omega)
 obtain ⟨o,h1,h2⟩:=key 199 (by omega)
 unfold fp
 have h1':ap (cD (a:Int) t) 199=some o:=h1
 rw [h1']
 simp only [Option.bind_some]
 cases o with
 | inl x=>exact h2
 | inr u=>exact h2
theorem B1 (t:TabT) (a:Nat):∀(n:Nat),(runX (jA (a:Int)) 0 (((List.range' 0 (n+1)).filter (tbit t)).map fun (c:Nat)=>(c:Int))=(((pY t a n:Nat):Int),none)) \/
  ((∃k,runX (jA (a:Int)) 0 (((List.range' 0 (n+1)).filter (tbit t)).map fun (c:Nat)=>(c:Int))=(((pY t a n:Nat):Int),some k))/\a<=n)
 | 0=>by
  rw [List.range'_succ,List.filter_cons]
  cases tbit t 0 with
  | false=>exact .inl rfl
  | true=>
   simp only [if_true]
   by_cases h:(a:Int)<=((0:Nat):Int)
   ·right
    refine ⟨⟨some 0,?_⟩,by omega⟩
    have e:jA (a:Int) 0 ((0:Nat):Int)=(0,some (some 0)):=if_pos h
    simp only [List.map_cons,runX,e];rfl
   ·left
    have e:jA (a:Int) 0 ((0:Nat):Int)=(((0:Nat):Int),none):=if_neg h
    simp only [List.map_cons,runX,e];rfl
 | n+1=>by
  have hsplit:((List.range' 0 (n+1+1)).filter (tbit t)).map (fun (c:Nat)=>(c:Int))=((List.range' 0 (n+1)).filter (tbit t)).map (fun (c:Nat)=>(c:Int))++(if tbit t (n+1)=true then [((n+1:Nat):Int)] else []):=by
   rw [List.range'_1_concat,List.filter_append,List.map_append]
   congr 1
   simp only [Nat.zero_add,List.filter_cons,List.filter_nil]
   split <;> rfl
  have hstay:∀{x:Int} {k:Option Nat} {xs ys:List Int},runX (jA (a:Int)) 0 xs=(x,some k)->runX (jA (a:Int)) 0 (xs++ys)=(x,some k):=by
   intro x k xs ys
   generalize (0:Int)=r
   induction xs generalizing r with
   | nil=>intro h;simp [runX] at h
   | cons y xs ih=>
    intro h
    simp only [List.cons_append,runX] at h ⊢
    split at h
    ·exact ih _ h
    ·exact h
  rw [hsplit]
  unfold pY
  rcases B1 t a n with h | ⟨⟨k,h⟩,ha⟩
  ·rw [xa _ _ h]
   cases hb:tbit t (n+1) with
   | false=>
    left
    rw [Bool.and_false]
    rfl
   | true=>
    simp only [if_true,Bool.and_true]
    by_cases h2:n+1<a
    ·left
     have e:jA (a:Int) ((pY t a n:Nat):Int) ((n+1:Nat):Int)=(((n+1:Nat):Int),none):=if_neg (by omega)
     rw [ao h2]
     simp only [runX,e];rfl
    ·right
     have e:jA (a:Int) ((pY t a n:Nat):Int) ((n+1:Nat):Int)=(((pY t a n:Nat):Int),some (some 0)):=if_pos (by omega)
     rw [au h2]
     refine ⟨⟨some 0,?_⟩,by omega⟩
     simp only [runX,e];rfl
  ·right
   rw [au (by omega:¬n+1<a)]
   exact ⟨⟨k,hstay h⟩,by omega⟩
theorem JB {t:TabT} (ht:bk t) {a:Nat}:jn t (a:Int)=some ((pY t a 199:Nat):Int):=by
 unfold jn
 rw [vz ht]
 simp only [Option.bind_some,Option.some.injEq]
 unfold uh jo
 rcases B1 t a 199 with h | ⟨⟨k,h⟩,_⟩
 ·rw [show 200-0=199+1 from rfl,h]
 ·rw [show 200-0=199+1 from rfl,h]
end Go.SH
namespace Go.SH
open IntKind (i64 u64 i32 u8)
def inR (c:Int) (e:Int×Int×Int):Bool:=decide (e.1<=c)&&decide (c<=e.2.1)
def Hx (L:List (Int×Int×Int)) (c:Int):Int:=match L.find? (fun e=>decide (c<=e.2.1)) with
 | some e=>bif decide (e.1<=c) then e.2.2 else 1
 | none=>1
def Do:List (Int×Int×Int)->Bool
 | []=>true
 | e::L=>decide (e.1<=e.2.1)&&(L.all (fun x=>decide (e.2.1<x.1))&&Do L)
def isV (v:Int) (e:Int×Int×Int):Bool:=e.2.2==v
theorem CD (c:Int):∀(L:List (Int×Int×Int)),Do L=true->(L.all fun e=>(e.2.2==0)||(e.2.2==2))=true->Hx L c=bif (L.filter (isV 0)).any (inR c) then 0 else bif (L.filter (isV 2)).any (inR c) then 2 else 1
 | [],_,_=>rfl
 | e::L,hr,hv=>by
  simp only [Do,Bool.and_eq_true,decide_eq_true_eq,List.all_eq_true] at hr
  simp only [List.all_cons,Bool.and_eq_true] at hv
  obtain ⟨h1,h2,h3⟩:=hr
  have ih:=CD c L h3 hv.2
  unfold Hx at ih ⊢
  rw [List.find?_cons]
  by_cases hc:c<=e.2.1
  ·rw [ao hc]
   have hno:∀v,(L.filter (isV v)).any (inR c)=false:=fun v=>by
    rw [List.any_eq_false]
    intro x hx
    have:=h2 x (List.mem_filter.1 hx).1
    simp only [inR,Bool.and_eq_true,decide_eq_true_eq]
    omega
   have hin:inR c e=decide (e.1<=c):=by unfold inR;rw [ao hc,Bool.and_true]
   rcases Bool.or_eq_true_iff.1 hv.1 with h | h
   ·have h':e.2.2=0:=by simpa using h
    have a0:isV 0 e=true:=h
    have a2:isV 2 e=false:=by unfold isV;rw [h'];rfl
    rw [List.filter_cons,if_pos a0,List.filter_cons,if_neg (by rw [a2];simp),List.any_cons,hno,hno,hin,Bool.or_false]
    simp only [h']
    cases decide (e.1<=c) <;> rfl
   ·have h':e.2.2=2:=by simpa using h
    have a2:isV 2 e=true:=h
    have a0:isV 0 e=false:=by unfold isV;rw [h'];rfl
    rw [List.filter_cons,if_neg (by rw [a0];simp),List.filter_cons,if_pos a2,List.any_cons,hno,hno,hin,Bool.or_false]
    simp only [h']
    cases decide (e.1<=c) <;> rfl
  ·rw [au hc]
   have hin:inR c e=false:=by unfold inR;rw [au hc,Bool.and_false]
   have hsame:∀v,((e::L).filter (isV v)).any (inR c)=(L.filter (isV v)).any (inR c):=fun v=>by
    rw [List.filter_cons]
    split
    ·rw [List.any_cons,hin,Bool.false_or]
    ·rfl
   rw [hsame,hsame]
   exact ih
theorem CW {α:Type} {p:α->Bool} {a b:List α} (h1:∀x∈a,x∈b) (h2:∀x∈b,x∈a):a.any p=b.any p:=by
 rw [Bool.eq_iff_iff,List.any_eq_true,List.any_eq_true]
 exact ⟨fun ⟨x,hx,hp⟩=>⟨x,h1 x hx,hp⟩,fun ⟨x,hx,hp⟩=>⟨x,h2 x hx,hp⟩⟩
def ref0:List (Int×Int×Int):=[(768,879,0),(1155,1161,0),(1425,1469,0),(1552,1562,0),(1611,1631,0),(6832,6911,0),(7616,7679,0),(8203,8207,0),(8400,8447,0),(65024,65039,0),(65056,65071,0)]
def ref2:List (Int×Int×Int):=[(4352,4447,2),(11904,12350,2),(12353,42191,2),(44032,55203,2),(63744,64255,2),(65072,65135,2),(65280,65376,2),(65504,65510,2),(127744,128591,2),(129280,129535,2),(131072,262141,2)]
theorem Mc (c a b v:Int):aG c a b=some (inR c (a,b,v)):=by
 unfold aG inR
 rw [show decide (c>=a)=decide (a<=c) from rfl]
 cases decide (a<=c) <;> rfl
theorem BZ (a b:List (Int×Int×Int)) (h:(a.all (fun x=>b.contains x)&&b.all (fun x=>a.contains x))=true):(∀x∈a,x∈b)/\∀x∈b,x∈a:=by
 simp only [Bool.and_eq_true,List.all_eq_true,List.contains_iff_mem] at h
 exact h
theorem Bf (c:Int):ae c=bif lL c then -1 else Hx bf c:=rfl
theorem kU (c:Int):bx c=some (ae c):=by
 have h0:=BZ ref0 (bf.filter (isV 0)) (by decide +kernel)
 have h2:=BZ ref2 (bf.filter (isV 2)) (by decide +kernel)
 have hV:=CD c bf (by decide +kernel) (by decide +kernel)
 rw [<-CW h0.1 h0.2,<-CW h2.1 h2.2] at hV
 rw [Bf,hV]
 unfold bx
 have i0:∀a b,aG c a b=some (inR c (a,b,0)):=fun a b=>Mc c a b 0
 have i2:∀a b,inR c (a,b,0)=inR c (a,b,2):=fun a b=>rfl
 simp only [i0,bt]
 simp only [bto,Option.bind_some]
 have hbad:(decide (c<32)||(inR c (127,159,0)||(inR c (55296,57343,0)||decide (c>1114111))))=lL c:=by
  unfold lL inR
  simp only [gt_iff_lt]
  have:decide (c<=159)=decide (c<160):=by rw [Bool.eq_iff_iff];simp;omega
  rw [this]
  cases decide (c<32) <;> cases decide (127<=c) <;> cases decide (c<160) <;> cases decide (55296<=c) <;> cases decide (c<=57343) <;> cases decide (1114111<c) <;> rfl
 rw [hbad]
 cases lL c with
 | true=>rfl
 | false=>
  simp only [cond_false]
  have ha:ref0.any (inR c)=((inR c (768,879,0)||(inR c (1155,1161,0)||(inR c (1425,1469,0)||(inR c (1552,1562,0)||(inR c (1611,1631,0)||inR c (6832,6911,0))))))||(inR c (7616,7679,0)||(inR c (8203,8207,0)||(inR c (8400,8447,0)||(inR c (65024,65039,0)||inR c (65056,65071,0)))))):=by
   unfold ref0
   simp only [List.any_cons,List.any_nil,Bool.or_false,Bool.or_assoc]
  have hb:ref2.any (inR c)=((inR c (4352,4447,0)||(inR c (11904,12350,0)||(inR c (12353,42191,0)||(inR c (44032,55203,0)||inR c (63744,64255,0)))))||(inR c (65072,65135,0)||(inR c (65280,65376,0)||(inR c (65504,65510,0)||(inR c (127744,128591,0)||(inR c (129280,129535,0)||inR c (131072,262141,0))))))):=by
   unfold ref2
   simp only [List.any_cons,List.any_nil,Bool.or_false,Bool.or_assoc,i2]
  rw [ha,hb]
  cases (inR c (768,879,0)||(inR c (1155,1161,0)||(inR c (1425,1469,0)||(inR c (1552,1562,0)||(inR c (1611,1631,0)||inR c (6832,6911,0)))))) <;>
  cases (inR c (7616,7679,0)||(inR c (8203,8207,0)||(inR c (8400,8447,0)||(inR c (65024,65039,0)||inR c (65056,65071,0))))) <;>
  cases (inR c (4352,4447,0)||(inR c (11904,12350,0)||(inR c (12353,42191,0)||(inR c (44032,55203,0)||inR c (63744,64255,0))))) <;>
  cases (inR c (65072,65135,0)||(inR c (65280,65376,0)||(inR c (65504,65510,0)||(inR c (127744,128591,0)||(inR c (129280,129535,0)||inR c (131072,262141,0)))))) <;> rfl
theorem qi (p:PenT):bH p=some (aO p):=by
 unfold bH aO
 by_cases h1:0<=p.1 <;> by_cases h2:p.1<=255 <;> by_cases h3:0<=p.2.1 <;> by_cases h4:p.2.1<=256 <;> by_cases h5:0<=p.2.2 <;> by_cases h6:p.2.2<=256 <;> simp [h1,h2,h3,h4,h5,h6]
def oneB (n b:Int):Int:=match act (b,0,0) n [] with
 | some (q,_)=>q.1
 | none=>b
theorem GZ:∀n:_root_.Fin 30,∀b:_root_.Fin 256,((n.val==0)||(ap (cw (n.val:Int)) (0,(b.val:Int))==some (oneB n.val b.val)))=true:=by decide +kernel
def EO:List Int:=[22,22,23,24,25,27,28,29]
def ons8:List Int:=[1,2,3,4,5,7,8,9]
theorem LS:∀k:_root_.Fin 8,(lq (k.val:Int)==some (ons8[k.val]?.getD 0,EO[k.val]?.getD 0))=true:=by decide +kernel
theorem on_r:∀k:_root_.Fin 8,(decide (1<=ons8[k.val]?.getD 0)&&(decide (ons8[k.val]?.getD 0<=29)&&(decide (1<=EO[k.val]?.getD 0)&&decide (EO[k.val]?.getD 0<=29))))=true:=by decide +kernel
theorem Cd (n b:Int) (h:n<1\/30<=n):∀(m k:Nat),k+m=8->ap (cw n) ((k:Int),b)=some b
 | 0,k,hk=>by
  obtain rfl:k=8:=by omega
  rw [aj]
  rfl
 | m+1,k,hk=>by
  have hr:=LS ⟨k,by omega⟩
  have h1:=on_r ⟨k,by omega⟩
  simp only [beq_iff_eq] at hr
  simp only [Bool.and_eq_true,decide_eq_true_eq] at h1
  have c1:(n==ons8[k]?.getD 0)=false:=by simp only [beq_eq_false_iff_ne];omega
  have c2:(n==EO[k]?.getD 0)=false:=by simp only [beq_eq_false_iff_ne];omega
  have hs:cw n ((k:Int),b)=some (.inr (((k+1:Nat):Int),b)):=by
   unfold cw
   have hu:u64.wrap (k:Int)=k:=by rw [wL];omega
   simp only [bt]
   rw [ao (show (k:Int)<8 by omega),hr]
   simp only [Option.bind_some,cond_true,hu,c1,c2,cond_false]
   rw [ac (by omega),ag (by omega)]
   rfl
  rw [aj,hs]
  exact Cd n b h m (k+1) (by omega)
theorem IJ {b n:Int} (hb:0<=b/\b<=255) (h0:n≠0):ap (cw n) (0,b)=some (if 1<=n/\n<30 then oneB n b else b):=by
 by_cases h:1<=n/\n<30
 ·rw [if_pos h]
  have:=GZ ⟨n.toNat,by omega⟩ ⟨b.toNat,by omega⟩
  simp only [show ((n.toNat:Nat):Int)=n from by omega,show ((b.toNat:Nat):Int)=b from by omega] at this
  have hz:(n.toNat==0)=false:=by simp;omega
  rw [hz,Bool.false_or] at this
  exact eq_of_beq this
 ·rw [if_neg h]
  exact Cd n b (by omega) 8 0 rfl
theorem Js (p:T3) {n:Int} (h:1<=n/\n<30) (r:List Int):act p n r=some ((oneB n p.1,p.2.1,p.2.2),0):=by
 have hg:grp n=(false,0):=by unfold grp;rw [if_neg (by omega),if_neg (by omega),if_neg (by omega),if_neg (by omega)]
 have a0:(n==0)=false:=by simp;omega
 unfold oneB act
 rw [hg,a0]
 simp only [cond_false,Bool.false_and]
 cases (decide (1<=n)&&decide (n<=9)) <;> cases n==22 <;> cases (decide (23<=n)&&decide (n<=29)) <;> rfl
theorem Ic (p:T3) {n:Int} (h:n<0\/30<=n) (hg:grp n=(false,0)) (r:List Int):act p n r=some (p,0):=by
 have a0:(n==0)=false:=by simp;omega
 have a1:(decide (1<=n)&&decide (n<=9))=false:=by simp;omega
 have a2:(n==22)=false:=by simp;omega
 have a3:(decide (23<=n)&&decide (n<=29))=false:=by simp;omega
 unfold act
 rw [hg,a0,a1,a2,a3];rfl
theorem wF (p:T3) {n g:Int} (h:30<=n) (hg:grp n=(true,g)) (h8:n≠g+8) (r:List Int):act p n r=some (jr g (if n=g+9 then 0 else if n<90 then n-g+1 else n-g-60+9) p,0):=by
 have a0:(n==0)=false:=by simp;omega
 have a1:(decide (1<=n)&&decide (n<=9))=false:=by simp;omega
 have a2:(n==22)=false:=by simp;omega
 have a3:(decide (23<=n)&&decide (n<=29))=false:=by simp;omega
 have a4:(n==g+8)=false:=by simpa using h8
 unfold act
 rw [hg,a0,a1,a2,a3]
 simp only [cond_false,Bool.true_and,a4]
 by_cases h9:n=g+9
 ·rw [if_pos h9]
  have:(n==g+9)=true:=by simpa using h9
  rw [this];rfl
 ·rw [if_neg h9]
  have:(n==g+9)=false:=by simpa using h9
  rw [this]
  by_cases h90:n<90
  ·rw [ao h90,if_pos h90];rfl
  ·rw [au h90,if_neg h90];rfl
theorem CR (x:Int):ba x=some (isB x):=by
 unfold ba isB;simp only [ge_iff_le];cases decide (0<=x) <;> rfl
theorem HZ {y z w:Int} (hy:isB y=true) (hz:isB z=true) (hw:isB w=true) :
  i64.wrap ((i64.wrap ((i64.wrap ((i64.wrap ((16:Int)+(i64.wrap ((36:Int)*(i64.wrap (Int.tdiv (i64.wrap ((6:Int)*y)) 256))))))+(i64.wrap ((6:Int)*(i64.wrap (Int.tdiv (i64.wrap ((6:Int)*z)) 256))))))+(i64.wrap (Int.tdiv (i64.wrap ((6:Int)*w)) 256))))+1) =
   17+36*(6*y / 256)+6*(6*z / 256)+6*w / 256:=by
 have h1:=lA hy;have h2:=lA hz;have h3:=lA hw
 have e1:∀x:Int,0<=x->x<=255->i64.wrap (Int.tdiv (i64.wrap ((6:Int)*x)) 256)=6*x / 256:=by
  intro x a b
  have:i64.wrap ((6:Int)*x)=6*x:=by rw [w64];omega
  rw [this,Int.tdiv_eq_ediv_of_nonneg (by omega),w64];omega
 rw [e1 y h1.1 h1.2,e1 z h2.1 h2.2,e1 w h3.1 h3.2]
 have a1:0<=6*y / 256/\6*y / 256<=5:=by omega
 have a2:0<=6*z / 256/\6*z / 256<=5:=by omega
 have a3:0<=6*w / 256/\6*w / 256<=5:=by omega
 simp only [w64]
 omega
def GY {α:Type} (r:List Int) (k1 k2:Int->Option α) (k3:Option α):Option α:=
 (bif decide ((r.length:Int)>1) then
   (getI r 0).bind fun x179=>bif x179==5 then (getI r 1).bind fun x180=>(ba x180).bind fun x181=>some x181 else some false
  else some false:Option Bool).bind fun x182=>
 bif x182 then (getI r 1).bind fun x183=>k1 (i64.wrap (x183+1))
 else
  (bif decide ((r.length:Int)>3) then
    (getI r 0).bind fun x191=>
    bif x191==2 then
     (getI r 1).bind fun x192=>(ba x192).bind fun x193=>
     bif x193 then
      (getI r 2).bind fun x194=>(ba x194).bind fun x195=>
      bif x195 then (getI r 3).bind fun x196=>(ba x196).bind fun x197=>some x197 else some false
     else some false
    else some false
   else some false:Option Bool).bind fun x198=>
  bif x198 then
   (getI r 1).bind fun x199=>(getI r 2).bind fun x200=>(getI r 3).bind fun x201=>
   k2 (i64.wrap ((i64.wrap ((i64.wrap ((i64.wrap ((16:Int)+(i64.wrap ((36:Int)*(i64.wrap (Int.tdiv (i64.wrap ((6:Int)*x199)) 256))))))+(i64.wrap ((6:Int)*(i64.wrap (Int.tdiv (i64.wrap ((6:Int)*x200)) 256))))))+(i64.wrap (Int.tdiv (i64.wrap ((6:Int)*x201)) 256))))+1))
  else k3
theorem FE {α:Type} (r:List Int) (k1 k2:Int->Option α) (k3:Option α):GY r k1 k2 k3=if (colS r).1=0 then k3 else if (colS r).1=2 then k1 (colS r).2 else k2 (colS r).2:=by
 have g0:∀(k:Int) (n:Nat),k=n->getI r k=r[n]?:=fun k n h=>by subst h;exact aP r n
 unfold GY
 simp only [CR]
 rw [g0 0 0 rfl,g0 1 1 rfl,g0 2 2 rfl,g0 3 3 rfl]
 match r with
 | []=>rfl
 | [x]=>rfl
 | [x,y]=>
  simp only [colS,List.length_cons,List.length_nil]
  by_cases hx:x=5
  ·subst hx
   by_cases hy:isB y=true
   ·have:=lA hy
    have e:i64.wrap (y+1)=1+y:=by rw [w64];omega
    simp [hy,e]
   ·simp [hy]
  ·have hx':(x==5)=false:=by simpa using hx
   simp [hx,hx']
 | [x,y,z]=>
  simp only [colS,List.length_cons,List.length_nil]
  by_cases hx:x=5
  ·subst hx
   by_cases hy:isB y=true
   ·have:=lA hy
    have e:i64.wrap (y+1)=1+y:=by rw [w64];omega
    simp [hy,e]
   ·simp [hy]
  ·have hx':(x==5)=false:=by simpa using hx
   simp [hx,hx']
 | x::y::z::w::r=>
  have hl:decide (((x::y::z::w::r).length:Int)>1)=true:=ao (by simp only [List.length_cons];omega)
  have hl4:decide (((x::y::z::w::r).length:Int)>3)=true:=ao (by simp only [List.length_cons];omega)
  rw [hl,hl4]
  simp only [colS,cond_true,List.getElem?_cons_zero,List.getElem?_cons_succ,Option.bind_some]
  by_cases hx:x=5
  ·subst hx
   by_cases hy:isB y=true
   ·have:=lA hy
    have e:i64.wrap (y+1)=1+y:=by rw [w64];omega
    simp [hy,e]
   ·simp [hy]
  ·by_cases hx2:x=2
   ·subst hx2
    by_cases hy:isB y=true <;> by_cases hz:isB z=true <;> by_cases hw:isB w=true <;> first | (simp [hy,hz,hw];done) | skip
    simp [hy,hz,hw,HZ hy hz hw]
   ·have hx':(x==5)=false:=by simpa using hx
    have hx2':(x==2)=false:=by simpa using hx2
    simp [hx,hx2,hx',hx2']
end Go.SH
namespace Go.SH
open IntKind (i64 u64 i32 u8)
def putO (a:Bool) (c i:Int) (b f k:Int):Option (((Int×Int×Int×Int×Int×Int)⊕(Int×Int×Int))⊕(Int×Int×Int×Int)):=
 (bif (decide (c>=0)&&a) then some c else some k:Option Int).bind fun x205=>
 bif (decide (c>=0) && !a) then some (.inr (i,b,c,x205)) else some (.inr (i,b,f,x205))
theorem xn (a:Bool) (c i b f k:Int) (h:0<=c):putO a c i b f k=some (.inr (i,jr (bif a then 40 else 30) c (b,f,k))):=by
 unfold putO jr
 have:decide (c>=0)=true:=ao h
 rw [this]
 cases a <;> rfl
theorem KS (l:List Int):(colS l).1=0\/(colS l).1=2\/(colS l).1=4:=H0 l
theorem GW {l:List Int} {i:Nat} {n:Int} (p:T3) (hp:aO p=true) (h:l[i]?=some n) (hb:l.length<4611686018427387904):bb l ((i:Int),p.1,p.2.1,p.2.2) =
  some (match act p n (l.drop (i+1)) with | none=>.inl (.inl (p.1,p.2.1,p.2.2,p)) | some (q,t)=>.inr (((i+1+t.toNat:Nat):Int),q)):=by
 have hlt:i<l.length:=(List.getElem?_eq_some_iff.1 h).1
 have e1:decide ((i:Int)<(l.length:Int))=true:=ao (by omega)
 have e2:i64.wrap ((i:Int)+1)=((i+1:Nat):Int):=by rw [w64];omega
 have e3:i64.wrap (((i+1:Nat):Int)+2)=((i+1+2:Nat):Int):=by rw [w64];omega
 have e4:i64.wrap (((i+1:Nat):Int)+4)=((i+1+4:Nat):Int):=by rw [w64];omega
 have hq:0<=((i+1:Nat):Int)/\((i+1:Nat):Int)<=((l.length:Nat):Int)/\((l.length:Nat):Int)<=((l.length:Nat):Int):=by omega
 have ht:((i+1:Nat):Int).toNat=i+1:=rfl
 have hpb:=(ku.1 hp).1
 unfold bb
 simp only [bt]
 simp only [bt2,bto,e1,cond_true,aP,h,Option.bind_some,e2,e3,e4]
 by_cases h0:n=0
 ·subst h0;rfl
 have h0':(n==0)=false:=by simpa using h0
 have h3:=IJ hpb h0
 rw [h0',h3]
 simp only [cond_false,Option.bind_some]
 rw [ac hq,ht,Ey]
 have eC:=FE (α:=(Int×Int×Bool)⊕(((Int×Int×Int×Int×Int×Int)⊕(Int×Int×Int))⊕(Int×Int×Int×Int))) (l.drop (i+1)) (fun c=>some (.inl (((i+1+2:Nat):Int),c,(n==48)))) (fun c=>some (.inl (((i+1+4:Nat):Int),c,(n==48)))) (some (.inr (.inl (.inl (p.1,p.2.1,p.2.2,p)))))
 by_cases hlow:1<=n/\n<30
 ·have A1:(decide (n>=30)&&decide (n<=37))=false:=by simp;omega
  have A2:(decide (n>=90)&&decide (n<=97))=false:=by simp;omega
  have A3:(n==39)=false:=by simp;omega
  have A4:(decide (n>=40)&&decide (n<=47))=false:=by simp;omega
  have A5:(decide (n>=100)&&decide (n<=107))=false:=by simp;omega
  have A6:(n==49)=false:=by simp;omega
  have A7:((n==38)||(n==48))=false:=by simp;omega
  rw [A1,A2,A3,A4,A5,A6,A7,if_pos hlow,Js p hlow]
  rfl
 rw [if_neg hlow]
 by_cases h8:n=38\/n=48
 ·have A1:(decide (n>=30)&&decide (n<=37))=false:=by simp;omega
  have A2:(decide (n>=90)&&decide (n<=97))=false:=by simp;omega
  have A3:(n==39)=false:=by simp;omega
  have A4:(decide (n>=40)&&decide (n<=47))=false:=by simp;omega
  have A5:(decide (n>=100)&&decide (n<=107))=false:=by simp;omega
  have A6:(n==49)=false:=by simp;omega
  have A7:((n==38)||(n==48))=true:=by simp;omega
  rw [A1,A2,A3,A4,A5,A6,A7]
  simp only [cond_false,cond_true]
  refine (congrArg (fun o=>Option.bind o _) eC).trans ?_
  have hac:act p n (l.drop (i+1))=bif (colS (l.drop (i+1))).1==0 then none else some (jr (bif (n==48) then 40 else 30) (colS (l.drop (i+1))).2 p,(colS (l.drop (i+1))).1):=by
   rcases h8 with rfl | rfl <;> rfl
  rw [hac]
  have hc:=H1 (l.drop (i+1))
  rcases KS (l.drop (i+1)) with ct | ct | ct
  ·rw [if_pos ct,ct];rfl
  ·rw [if_neg (by omega),if_pos ct,ct]
   refine (xn _ _ _ _ _ _ hc.1).trans ?_
   rfl
  ·rw [if_neg (by omega),if_neg (by omega),ct]
   refine (xn _ _ _ _ _ _ hc.1).trans ?_
   rfl
 have A7:((n==38)||(n==48))=false:=by simp;omega
 have hw:∀(a:Bool) (c:Int),0<=c->act p n (l.drop (i+1))=some (jr (bif a then 40 else 30) c p,0)->putO a c ((i+1:Nat):Int) p.1 p.2.1 p.2.2=some (match act p n (l.drop (i+1)) with | none=>.inl (.inl (p.1,p.2.1,p.2.2,p)) | some (q,t)=>.inr (((i+1+t.toNat:Nat):Int),q)):=by
  intro a c hc ha
  rw [xn _ _ _ _ _ _ hc,ha]
  rfl
 rw [A7]
 by_cases d1:30<=n/\n<=37
 ·have A1:(decide (n>=30)&&decide (n<=37))=true:=by simp;omega
  rw [A1]
  have ec:i64.wrap (i64.wrap (n-30)+1)=n-30+1:=by simp only [w64];omega
  rw [ec]
  refine hw false (n-30+1) (by omega) ?_
  rw [wF p (g:=30) (by omega) (by unfold grp;rw [if_pos (by omega)]) (by omega),if_neg (by omega),if_pos (by omega)];rfl
 have A1:(decide (n>=30)&&decide (n<=37))=false:=by simp;omega
 rw [A1]
 by_cases d2:90<=n/\n<=97
 ·have A2:(decide (n>=90)&&decide (n<=97))=true:=by simp;omega
  rw [A2]
  have ec:i64.wrap (i64.wrap (n-90)+9)=n-30-60+9:=by simp only [w64];omega
  rw [ec]
  refine hw false (n-30-60+9) (by omega) ?_
  rw [wF p (g:=30) (by omega) (by unfold grp;rw [if_neg (by omega),if_neg (by omega),if_pos (by omega)]) (by omega),if_neg (by omega),if_neg (by omega)];rfl
 have A2:(decide (n>=90)&&decide (n<=97))=false:=by simp;omega
 rw [A2]
 by_cases d3:n=39
 ·subst d3
  exact hw false 0 (by omega) rfl
 have A3:(n==39)=false:=by simp;omega
 rw [A3]
 by_cases d4:40<=n/\n<=47
 ·have A4:(decide (n>=40)&&decide (n<=47))=true:=by simp;omega
  rw [A4]
  have ec:i64.wrap (i64.wrap (n-40)+1)=n-40+1:=by simp only [w64];omega
  rw [ec]
  refine hw true (n-40+1) (by omega) ?_
  rw [wF p (g:=40) (by omega) (by unfold grp;rw [if_neg (by omega),if_pos (by omega)]) (by omega),if_neg (by omega),if_pos (by omega)];rfl
 have A4:(decide (n>=40)&&decide (n<=47))=false:=by simp;omega
 rw [A4]
 by_cases d5:100<=n/\n<=107
 ·have A5:(decide (n>=100)&&decide (n<=107))=true:=by simp;omega
  rw [A5]
  have ec:i64.wrap (i64.wrap (n-100)+9)=n-40-60+9:=by simp only [w64];omega
  rw [ec]
  refine hw true (n-40-60+9) (by omega) ?_
  rw [wF p (g:=40) (by omega) (by unfold grp;rw [if_neg (by omega),if_neg (by omega),if_neg (by omega),if_pos (by omega)]) (by omega),if_neg (by omega),if_neg (by omega)];rfl
 have A5:(decide (n>=100)&&decide (n<=107))=false:=by simp;omega
 rw [A5]
 by_cases d6:n=49
 ·subst d6
  exact hw true 0 (by omega) rfl
 have A6:(n==49)=false:=by simp;omega
 rw [A6,Ic p (by omega) (by unfold grp;rw [if_neg (by omega),if_neg (by omega),if_neg (by omega),if_neg (by omega)])]
 rfl
def mrgR:(Int×Int×Int×Int×Int×Int)⊕(Int×Int×Int)->T3
 | .inl x=>x.2.2.2
 | .inr x=>x
theorem GX (l:List Int) (hb:l.length<4611686018427387904):∀(m i:Nat) (p:T3),aO p=true->l.length-i<=m->i<=l.length+4 ->
  ∃z,ap (bb l) ((i:Int),p)=some z/\mrgR z=kB p (l.drop i):=by
 intro m
 have hend:∀(i:Nat) (p:T3),l.length<=i->∃z,ap (bb l) ((i:Int),p)=some z/\mrgR z=kB p (l.drop i):=by
  intro i p hi
  refine ⟨.inr p,?_,?_⟩
  ·rw [aj]
   have:bb l ((i:Int),p)=some (.inl (.inr p)):=by
    unfold bb
    simp only
    rw [au (by omega)];rfl
   rw [this]
  ·rw [List.drop_eq_nil_of_le (by omega)];simp [mrgR,kB]
 induction m with
 | zero=>intro i p hp hm hi;exact hend i p (by omega)
 | succ m ih=>
  intro i p hp hm hi
  by_cases hlt:i<l.length
  ·have hs:=GW p hp (List.getElem?_eq_getElem hlt) hb
   have hd:=List.drop_eq_getElem_cons hlt
   rw [aj]
   have hs':bb l ((i:Int),p)=_:=hs
   rw [hs',hd,kB]
   cases ha:act p l[i] (l.drop (i+1)) with
   | none=>exact ⟨.inl (p.1,p.2.1,p.2.2,p),rfl,rfl⟩
   | some qt=>
    obtain ⟨q,t⟩:=qt
    have ht:=J4 ha
    obtain ⟨z,h1,h2⟩:=ih (i+1+t.toNat) q (Fg hp ha) (by omega) (by omega)
    refine ⟨z,h1,?_⟩
    rw [h2];simp only [List.drop_drop]
  ·exact hend i p (by omega)
theorem Cb {p:PenT} (hp:aO p=true) {l:List Int} (hb:l.length<4611686018427387904):ik p l=some (pZ p l):=by
 unfold ik pZ
 rw [qi,hp]
 simp only [bt,Option.bind_some,Bool.not_true,cond_false]
 cases l with
 | nil=>rfl
 | cons n r=>
  have e:(((n::r).length:Int)==0)=false:=by simp;omega
  rw [e]
  obtain ⟨z,h1,h2⟩:=GX (n::r) hb (n::r).length 0 p hp (by omega) (by omega)
  have h1':ap (bb (n::r)) (0,p.1,p.2.1,p.2.2)=some z:=h1
  simp only [cond_false,Option.bind_some]
  rw [h1']
  simp only [List.drop_zero] at h2
  simp only [Option.bind_some,List.isEmpty_cons,cond_false]
  rw [<-h2]
  cases z <;> rfl
end Go.SH
namespace Go.SH
open IntKind (i64 u64 i32 u8)
theorem gt {α:Type} {step:Int×List α->Option (List α⊕(Int×List α))} {n:Nat} {u:Nat->α}
  (hin:∀(k:Nat) (acc:List α),k<n->acc.length=k->step ((k:Int),acc)=some (.inr (((k+1:Nat):Int),acc++[u k])))
  (hend:∀acc:List α,acc.length=n->step ((n:Int),acc)=some (.inl acc)):ap step (0,[])=some ((List.range n).map u):=by
 have key:∀(m k:Nat),k+m=n->ap step ((k:Int),(List.range k).map u)=some ((List.range n).map u):=by
  intro m
  induction m with
  | zero=>
   intro k h
   have:k=n:=by omega
   subst this
   rw [aj,hend _ (by simp)]
  | succ m ih=>
   intro k h
   rw [aj,hin k _ (by omega) (by simp)]
   have:=ih (k+1) (by omega)
   rw [List.range_succ,List.map_append] at this
   exact this
 exact key n 0 (by omega)
theorem wu {α:Type} (l:List α):([]:List α)++l=l:=rfl
theorem mxB {n:Nat} (h:n<=2000):n*48<=aS:=by unfold aS;omega
theorem mxL {n:Nat} (h:n<=2000):n*24<=aS:=by unfold aS;omega
theorem ii {n:Nat} (hn:n<=1000) (p:PenT):bU (n:Int) p=some (aT n p):=by
 unfold bU
 have h:=gt (step:=dS (n:Int) p) (n:=n) (u:=fun _=>dg p) (fun k acc hk ha=>by
  unfold dS cR
  rw [ao (by omega:(k:Int)<(n:Int))]
  simp only [Option.bind_some,cond_true,rleq,aJ]
  rw [ac (mxB (by simp;omega)),ag (by omega)];rfl) (fun acc ha=>by
  unfold dS
  rw [au (by omega:¬(n:Int)<(n:Int))]
  simp only [Option.bind_some,cond_false,rleq,aJ])
 rw [h]
 simp only [Option.bind_some,rleq,aJ]
 congr 1
 unfold aT
 rw [List.map_const']
 simp
def qU (a:Int) (i:Nat) (c:ak):ak:=bif (((i:Int)==a)&&(c.2.2.1==2))||(((i:Int)==a-1)&&(c.2.2.1==1)) then dg c.2.2.2 else c
def zd (l:List ak) (a:Int):List ak:=l.mapIdx (qU a)
theorem wS (l:List ak) (a:Int):(List.range l.length).map (fun k=>qU a k (l[k]?.getD (dg (0,0,0))))=zd l a:=by
 refine List.ext_getElem? fun i=>?_
 unfold zd
 rw [List.getElem?_map,List.getElem?_mapIdx]
 by_cases h:i<l.length
 ·rw [List.getElem?_range h]
  show some (qU a i (l[i]?.getD (dg (0,0,0))))=_
  rw [List.getElem?_eq_getElem h];rfl
 ·rw [List.getElem?_eq_none (by simp;omega),List.getElem?_eq_none (by omega)];rfl
theorem za (x y z:Bool):(bif x then bif y then some true else some z else some z:Option Bool)=some ((x&&y)||z):=by cases x <;> cases y <;> cases z <;> rfl
theorem zb (X:Bool) (c:ak):((bif X then (cR c.2.2.2).bind fun x14=>some (x14.1,x14.2.1.1,x14.2.1.2,x14.2.2.1,x14.2.2.2.1,x14.2.2.2.2.1,x14.2.2.2.2.2) else some (c.1,c.2.1.1,c.2.1.2,c.2.2.1,c.2.2.2.1,c.2.2.2.2.1,c.2.2.2.2.2):Option (Int×Int×Int×Int×Int×Int×Int))) =
  some ((bif X then dg c.2.2.2 else c).1,(bif X then dg c.2.2.2 else c).2.1.1,(bif X then dg c.2.2.2 else c).2.1.2,(bif X then dg c.2.2.2 else c).2.2):=by cases X <;> rfl
theorem Ds {l:List ak} (hl:l.length<=1000) {a:Int} (ha:-1000000<=a/\a<=1000000):bo l a=some (zd l a):=by
 unfold bo
 have h:=gt (step:=di l a) (n:=l.length) (u:=fun k=>qU a k (l[k]?.getD (dg (0,0,0)))) (fun k acc hk hac=>by
  unfold di
  rw [ao (by omega:(k:Int)<(l.length:Int))]
  simp only [bt]
  simp only [Option.bind_some,cond_true,aP,List.getElem?_eq_getElem hk,bt2,za,ag (x:=a-1) (by omega)]
  erw [zb]
  simp only [Option.bind_some,rleq,aJ]
  rw [ac (mxB (by simp;omega)),ag (by omega)];rfl) (fun acc hac=>by
  unfold di
  rw [au (by omega:¬(l.length:Int)<(l.length:Int))]
  simp only [Option.bind_some,cond_false,rleq,aJ])
 rw [h]
 simp only [Option.bind_some,rleq,aJ,wS]
theorem B7 {l:List ak} (hl:l.length<=1000) {a:Int} (ha:-1000000<=a/\a<=1000000):bO a l=some (zd l a):=by
 unfold bO
 have h:=gt (step:=dh l a) (n:=l.length) (u:=fun k=>qU a k (l[k]?.getD (dg (0,0,0)))) (fun k acc hk hac=>by
  unfold dh
  rw [ao (by omega:(k:Int)<((l.length:Nat):Int))]
  simp only [bt]
  simp only [Option.bind_some,cond_true,Int.toNat_natCast,List.getElem?_eq_getElem hk,bt2,za,ag (x:=a-1) (by omega)]
  rw [ac (by omega)]
  erw [zb]
  simp only [Option.bind_some,rleq,aJ]
  rw [ac (mxB (by simp;omega)),ag (by omega)];rfl) (fun acc hac=>by
  unfold dh
  rw [au (by omega:¬((l.length:Nat):Int)<((l.length:Nat):Int))]
  simp only [Option.bind_some,cond_false,rleq,aJ])
 rw [h]
 simp only [Option.bind_some,rleq,aJ,wS]
theorem EN {l:List ak} (hl:aE l=true) {i:Nat} (hi:i<l.length):okAt l i=true:=by
 simp only [aE,Bool.and_eq_true,List.all_eq_true,List.mem_range] at hl
 exact hl.2 i hi
theorem uI {l:List ak} (hl:aE l=true) {i:Nat} {c:ak} (hc:l[i]?=some c):c.2.2.1=2<->0<i/\∃d,l[i-1]?=some d/\d.2.2.1=1:=by
 have hi:i<l.length:=(List.getElem?_eq_some_iff.1 hc).1
 have h:=EN hl hi
 unfold okAt at h
 rw [hc] at h
 simp only [Bool.and_eq_true,beq_iff_eq] at h
 have h1:=h.2.1
 constructor
 ·intro h2
  have:(c.2.2.1==2)=true:=by simpa using h2
  rw [this] at h1
  simp only [Bool.and_eq_true,decide_eq_true_eq] at h1
  refine ⟨h1.1,?_⟩
  have h3:=h1.2
  split at h3
  ·rename_i d hd;exact ⟨d,hd,by simpa using h3⟩
  ·simp at h3
 ·rintro ⟨h2,d,hd,hd1⟩
  rw [hd] at h1
  have:(d.2.2.1==1)=true:=by simpa using hd1
  rw [ao h2] at h1
  simp only [this,Bool.and_self] at h1
  exact eq_of_beq h1.symm
theorem FM {l:List ak} (hl:aE l=true) {i:Nat} {c:ak} (hc:l[i]?=some c) (h1:c.2.2.1=1):i+1<l.length:=by
 have hi:i<l.length:=(List.getElem?_eq_some_iff.1 hc).1
 have h:=EN hl hi
 unfold okAt at h
 rw [hc] at h
 simp only [Bool.and_eq_true,Bool.not_eq_true',Bool.and_eq_false_imp,beq_iff_eq,beq_eq_false_iff_ne] at h
 have:=h.2.2.2 h1
 omega
theorem y9 {l:List ak} (hl:aE l=true) (a:Int):zd l a=aH l a:=by
 refine List.ext_getElem? fun i=>?_
 unfold zd
 rw [List.getElem?_mapIdx]
 by_cases hi:i<l.length
 ·rw [List.getElem?_eq_getElem hi]
  simp only [Option.map_some]
  have hci:l[i]?=some l[i]:=List.getElem?_eq_getElem hi
  by_cases hin:0<a/\a<l.length
  ·obtain ⟨A,rfl⟩:∃k:Nat,a=k:=⟨a.toNat,by omega⟩
   have hA:A<l.length:=by omega
   have hcA:l[A]?=some l[A]:=List.getElem?_eq_getElem hA
   have hcA1:l[A-1]?=some l[A-1]:=List.getElem?_eq_getElem (by omega)
   have hp:=uI hl hcA
   unfold aH
   rw [ao hin.1,ao hin.2]
   simp only [Bool.and_self,cond_true,Int.toNat_natCast]
   rw [hcA,hcA1]
   simp only
   by_cases h2:l[A].2.2.1=2
   ·have hb2:(l[A].2.2.1==2)=true:=by simpa using h2
    obtain ⟨_,d,hd,hd1⟩:=hp.1 h2
    have hdd:l[A-1].2.2.1=1:=by rw [hcA1] at hd;simp at hd;rw [hd];exact hd1
    rw [hb2]
    simp only [cond_true]
    by_cases e:i=A
    ·subst e
     rw [List.getElem?_set_self (by simp;omega)]
     unfold qU
     rw [hb2];simp
    ·rw [List.getElem?_set_ne (by omega)]
     by_cases e2:i=A-1
     ·subst e2
      rw [List.getElem?_set_self (by omega)]
      unfold qU
      have q1:(((A-1:Nat):Int)==(A:Int)-1)=true:=by simp;omega
      have q2:(l[A-1].2.2.1==1)=true:=by simpa using hdd
      rw [q1,q2];simp
     ·rw [List.getElem?_set_ne (by omega),hci]
      unfold qU
      have q1:((i:Int)==(A:Int))=false:=by simp;omega
      have q2:((i:Int)==(A:Int)-1)=false:=by simp;omega
      rw [q1,q2];rfl
   ·have hb2:(l[A].2.2.1==2)=false:=by simpa using h2
    rw [hb2]
    simp only [cond_false]
    rw [hci]
    unfold qU
    by_cases e:i=A
    ·subst e
     have q2:((i:Int)==(i:Int)-1)=false:=by simp;omega
     rw [hb2,q2];simp
    ·have q1:((i:Int)==(A:Int))=false:=by simp;omega
     rw [q1]
     by_cases e2:i=A-1
     ·subst e2
      have hdd:(l[A-1].2.2.1==1)=false:=by
       cases hh:(l[A-1].2.2.1==1) with
       | false=>rfl
       | true=>exact absurd (hp.2 ⟨by omega,_,hcA1,by simpa using hh⟩) h2
      rw [hdd];simp
     ·have q2:((i:Int)==(A:Int)-1)=false:=by simp;omega
      rw [q2];rfl
  ·rw [ng hin,hci]
   unfold qU
   have q1:(((i:Int)==a)&&(l[i].2.2.1==2))=false:=by
    cases hh:(((i:Int)==a)&&(l[i].2.2.1==2)) with
    | false=>rfl
    | true=>
     simp only [Bool.and_eq_true,beq_iff_eq] at hh
     have:=(uI hl hci).1 hh.2
     omega
   have q2:(((i:Int)==a-1)&&(l[i].2.2.1==1))=false:=by
    cases hh:(((i:Int)==a-1)&&(l[i].2.2.1==1)) with
    | false=>rfl
    | true=>
     simp only [Bool.and_eq_true,beq_iff_eq] at hh
     have:=FM hl hci hh.2
     omega
   rw [q1,q2];rfl
 ·rw [List.getElem?_eq_none (by omega),List.getElem?_eq_none (by rw [aF];omega)];rfl
theorem GA {l:List ak} (hl:aE l=true) (a:Int):aE (aH l a)=true:=by
 obtain ⟨h1,h2⟩:=bh.1 hl
 exact bh.2 ⟨by rw [aF];exact h1,lU h2 a⟩
theorem BK {l:List ak} (hl:aE l=true) {a:Int} (ha:-1000000<=a/\a<=1000000):bo l a=some (aH l a):=by
 rw [Ds (gE hl) ha,y9 hl]
theorem Eu {l:List ak} (hl:aE l=true) (a:Int) {b:Int} (hb:-1000000<=b/\b<=1000000):bO b (aH l a)=some (aH (aH l a) b):=by
 rw [B7 (by rw [aF];exact gE hl) hb,y9 (GA hl a)]
theorem FB {l:List ak} (hl:aE l=true) {a:Int} (ha:-1000000<=a/\a<=1000000) (c:Int) (p:PenT):jQ l a c p=some (putM l a c p):=by
 have hlen:=gE hl
 have hr:=n7 c
 unfold jQ putM
 simp only [bt]
 simp only [kU,Option.bind_some,bt2,bto,ag (x:=(l.length:Int)-1) (by omega)]
 have eG:(decide (ae c<1)||(decide (a<0)||(decide (a>=(l.length:Int))||((ae c==2)&&(a==(l.length:Int)-1)))))=(decide (ae c<1)||(decide (a<0)||decide (a>l.length-ae c))):=by
  rw [Bool.eq_iff_iff]
  simp only [Bool.or_eq_true,Bool.and_eq_true,decide_eq_true_eq,beq_iff_eq]
  omega
 rw [eG]
 cases h:(decide (ae c<1)||(decide (a<0)||decide (a>l.length-ae c))) with
 | true=>rfl
 | false=>
  simp only [Bool.or_eq_false_iff,decide_eq_false_iff_not] at h
  simp only [cond_false]
  rw [BK hl ha]
  simp only [Option.bind_some,rleq,aJ]
  rw [ag (x:=a+ae c) (by omega),Eu hl a (by omega)]
  simp only [Option.bind_some]
  have hm:(aH (aH l a) (a+ae c)).length=l.length:=by rw [aF,aF]
  rw [ac (by omega),List.getElem?_eq_getElem (by omega:a.toNat<(aH (aH l a) (a+ae c)).length)]
  simp only [Option.bind_some]
  rw [ag (x:=a+1) (by omega),ag (x:=ae c-1) (by omega),show (a+1).toNat=a.toNat+1 from by omega]
  cases h4:(ae c==2) with
  | false=>
   simp only [cond_false,Option.bind_some]
   rw [ac (by simp)]
  | true=>
   simp only [beq_iff_eq] at h4
   simp only [cond_true,Option.bind_some]
   rw [ac (by omega),List.getElem?_eq_getElem (by simp;omega:a.toNat+1<((aH (aH l a) (a+ae c)).set a.toNat (c,(0,0),ae c-1,p)).length)]
   simp only [Option.bind_some]
   rw [ac (by simp)]
theorem xk {l:List ak} (hl:aE l=true) (a c:Int):ft l a c=some (rb l a c):=by
 have hlen:=gE hl
 unfold ft rb
 simp only [bt]
 simp only [kU,Option.bind_some,bto,wu]
 have eG:(decide (a<0)||(decide (a>=(l.length:Int))||(ae c !=0)))=nb l a c:=rfl
 rw [eG]
 cases h:nb l a c with
 | true=>rfl
 | false=>
  simp only [nb,Bool.or_eq_false_iff,decide_eq_false_iff_not] at h
  obtain ⟨A,rfl⟩:∃k:Nat,a=k:=⟨a.toNat,by omega⟩
  have hA:A<l.length:=by omega
  have hcA:l[A]?=some l[A]:=List.getElem?_eq_getElem hA
  simp only [cond_false,Int.toNat_natCast]
  rw [ac (mxB (by omega))]
  have e1:((bif decide ((A:Int)>0) then (getI l (A:Int)).bind fun x8=>some (x8.2.2.1==2) else some false:Option Bool).bind fun x9=>bif x9 then some (i64.wrap ((A:Int)-1)) else some (A:Int))=some ((l7 l A:Nat):Int):=by
   unfold l7
   rw [aP,hcA]
   simp only [Option.bind_some]
   by_cases h2:l[A].2.2.1=2
   ·have h0:=((uI hl hcA).1 h2).1
    have hb:(l[A].2.2.1==2)=true:=by simpa using h2
    rw [ao (by omega:(A:Int)>0),hb,if_pos h2,ag (by omega)]
    simp only [cond_true,Option.bind_some,Option.some.injEq];omega
   ·have hb:(l[A].2.2.1==2)=false:=by simpa using h2
    rw [hb,if_neg h2]
    cases decide ((A:Int)>0) <;> rfl
  rw [e1]
  have hB:l7 l A<l.length:=by
   unfold l7
   rw [hcA]
   simp only
   split <;> omega
  generalize l7 l A=B at *
  have hcB:l[B]?=some l[B]:=List.getElem?_eq_getElem hB
  simp only [Option.bind_some,Int.toNat_natCast]
  rw [ac (by omega),ac (by omega),ac (by omega),ac (by omega),hcB]
  simp only [Option.bind_some]
  unfold zq tH
  rw [hcB]
  simp only
  by_cases m1:l[B].2.1.1=0
  ·have:(l[B].2.1.1==0)=true:=by simpa using m1
   rw [this,if_pos m1]
   simp only [cond_true,Option.bind_some]
   rw [ac (by simp)]
  ·have:(l[B].2.1.1==0)=false:=by simpa using m1
   rw [this,if_neg m1]
   simp only [cond_false]
   by_cases m2:l[B].2.1.2=0
   ·have:(l[B].2.1.2==0)=true:=by simpa using m2
    rw [this,if_pos m2]
    simp only [cond_true,Option.bind_some]
    rw [ac (by simp)]
   ·have:(l[B].2.1.2==0)=false:=by simpa using m2
    rw [this,if_neg m2]
    simp only [cond_false,Option.bind_some]
    rw [aJ,List.set_getElem_self]
theorem oB {l:List ak} (hl:aE l=true) {f t:Int} (p:PenT):ey l f t p=some (gc l f t p):=by
 have hlen:=gE hl
 unfold ey gc
 simp only [bt,Option.bind_some]
 have eF:((bif decide (f<0) then some 0 else some f:Option Int))=some (low0 f):=by
  unfold low0
  by_cases h:f<0
  ·rw [ao h,if_neg (by omega)];rfl
  ·rw [au h]
   by_cases h2:f>0
   ·rw [if_pos h2];rfl
   ·rw [if_neg h2,show f=0 from by omega];rfl
 have eT:((bif decide (t>(l.length:Int)) then some (l.length:Int) else some t:Option Int))=some (hiL l t):=by
  unfold hiL
  by_cases h:t>(l.length:Int)
  ·rw [ao h,if_pos (by omega)];rfl
  ·rw [au h,if_neg (by omega)];rfl
 rw [eF,eT]
 simp only [Option.bind_some]
 have h1:=DJ f
 have h2:=Hp l t
 generalize low0 f=F at *
 generalize hiL l t=T at *
 by_cases h:T<=F
 ·rw [ao h,if_pos h];rfl
 ·rw [au h,if_neg h]
  obtain ⟨F,rfl⟩:∃k:Nat,F=k:=⟨F.toNat,by omega⟩
  obtain ⟨T,rfl⟩:∃k:Nat,T=k:=⟨T.toNat,by omega⟩
  simp only [cond_false,Int.toNat_natCast]
  rw [BK hl (by omega)]
  simp only [Option.bind_some,rleq,aJ]
  rw [Eu hl _ (by omega)]
  simp only [Option.bind_some]
  have hX:(aH (aH l (F:Int)) (T:Int)).length=l.length:=by rw [aF,aF]
  unfold rW
  generalize aH (aH l (F:Int)) (T:Int)=X at *
  obtain ⟨g',k1,k2,k3⟩:=nP (step:=ej (T:Int) p X) (n:=T) (off:=0) (N:=X.length) (u:=fun _=>some (dg p)) (g0:=X)
   (fun k z hk hz hold=>by
    unfold ej cR
    rw [ao (by omega:(k:Int)<(T:Int))]
    simp only [Option.bind_some,cond_true,Int.toNat_natCast]
    rw [ac (by omega),List.getElem?_eq_getElem (by omega:k<z.length)]
    simp only [Option.bind_some]
    rw [ag (by omega)];rfl)
   (fun z=>by unfold ej;rw [au (by omega:¬(T:Int)<(T:Int))];rfl) (T-F) F X (by omega) rfl (fun _ _=>rfl)
  rw [k1]
  simp only [Option.bind_some]
  rw [ac k2.symm]
  congr 1
  refine List.ext_getElem? fun i=>?_
  by_cases hi:i<X.length
  ·rw [k3 i hi]
   by_cases c1:i<F
   ·rw [if_neg (by omega),List.getElem?_append_left (by simp;omega),List.getElem?_take_of_lt c1]
   ·rw [List.getElem?_append_right (by simp;omega)]
    have e1:i-(X.take F).length=i-F:=by simp;omega
    rw [e1]
    by_cases c2:i<T
    ·rw [if_pos (by omega),List.getElem?_append_left (by simp [aT];omega)]
     unfold aT
     rw [List.getElem?_replicate,if_pos (by omega)]
    ·rw [if_neg (by omega),List.getElem?_append_right (by simp [aT];omega),List.getElem?_drop]
     congr 1;simp [aT];omega
  ·rw [List.getElem?_eq_none (by omega),List.getElem?_eq_none (by simp [aT];omega)]
theorem CE (l:List ak) (a n:Int):((bif decide (n>(l.length:Int)-a) then some ((l.length:Int)-a) else some n:Option Int))=some (nY l a n):=by
 unfold nY
 by_cases h:n>(l.length:Int)-a
 ·rw [ao h,if_pos (by omega)];rfl
 ·rw [au h,if_neg (by omega)];rfl
theorem sQ {l:List ak} (hl:aE l=true) {a n:Int} (p:PenT):fF l a n p=some (gq l a n p):=by
 have hlen:=gE hl
 unfold fF gq
 simp only [bt]
 simp only [bto,Option.bind_some,wu]
 have eG:(decide (n<1)||(decide (a<0)||decide (a>=(l.length:Int))))=kc l a n:=rfl
 rw [eG]
 cases h:kc l a n with
 | true=>rfl
 | false=>
  have hf:=qw h
  simp only [kc,Bool.or_eq_false_iff,decide_eq_false_iff_not] at h
  rw [ag (x:=(l.length:Int)-a) (by omega),CE]
  simp only [cond_false,Option.bind_some]
  generalize nY l a n=k at *
  obtain ⟨A,rfl⟩:∃j:Nat,a=j:=⟨a.toNat,by omega⟩
  obtain ⟨K,rfl⟩:∃j:Nat,k=j:=⟨k.toNat,by omega⟩
  have eLK:(l.length:Int)-(K:Int)=((l.length-K:Nat):Int):=by omega
  rw [ag (x:=(l.length:Int)-(K:Int)) (by omega),BK hl (by omega)]
  simp only [Option.bind_some,rleq,aJ,eLK]
  rw [Eu hl _ (by omega)]
  simp only [Option.bind_some,Int.toNat_natCast]
  have hX:(aH (aH l (A:Int)) ((l.length-K:Nat):Int)).length=l.length:=by rw [aF,aF]
  unfold oP
  generalize aH (aH l (A:Int)) ((l.length-K:Nat):Int)=X at *
  rw [ac (by omega),ac (by omega),ac (mxB (by simp;omega)),ii (by omega)]
  simp only [Option.bind_some]
  rw [ac (mxB (by simp [aT];omega)),ac (by omega),ac (by omega),ac (mxB (by simp [aT];omega)),List.drop_zero,List.append_assoc]
theorem Au {l:List ak} (hl:aE l=true) {a n:Int} (p:PenT):gS l a n p=some (lK l a n p):=by
 have hlen:=gE hl
 unfold gS lK
 simp only [bt]
 simp only [bto,Option.bind_some,wu]
 have eG:(decide (n<1)||(decide (a<0)||decide (a>=(l.length:Int))))=kc l a n:=rfl
 rw [eG]
 cases h:kc l a n with
 | true=>rfl
 | false=>
  have hf:=qw h
  simp only [kc,Bool.or_eq_false_iff,decide_eq_false_iff_not] at h
  rw [ag (x:=(l.length:Int)-a) (by omega),CE]
  simp only [cond_false,Option.bind_some]
  generalize nY l a n=k at *
  obtain ⟨A,rfl⟩:∃j:Nat,a=j:=⟨a.toNat,by omega⟩
  obtain ⟨K,rfl⟩:∃j:Nat,k=j:=⟨k.toNat,by omega⟩
  have eAK:(A:Int)+(K:Int)=((A+K:Nat):Int):=by omega
  rw [ag (x:=(A:Int)+(K:Int)) (by omega),BK hl (by omega)]
  simp only [Option.bind_some,rleq,aJ,eAK]
  rw [Eu hl _ (by omega)]
  simp only [Option.bind_some,Int.toNat_natCast]
  have hX:(aH (aH l (A:Int)) ((A+K:Nat):Int)).length=l.length:=by rw [aF,aF]
  unfold oS
  generalize aH (aH l (A:Int)) ((A+K:Nat):Int)=X at *
  rw [ac (by omega),ac (by omega),ac (mxB (by simp;omega)),ac (by omega),ac (by omega),ac (mxB (by simp;omega)),ii (by omega)]
  simp only [Option.bind_some]
  rw [ac (mxB (by simp [aT];omega)),List.drop_zero,List.append_assoc,show (X.drop (A+K)).take (X.length-(A+K))=X.drop (A+K) from List.take_of_length_le (by rw [List.length_drop];exact Nat.le_refl _)]
theorem FD {l:List ak} (hl:aE l=true) {n:Nat} (hn:n<=1000):jR l (n:Int)=some (fitM l n):=by
 have hlen:=gE hl
 unfold jR fitM
 simp only [bt,Option.bind_some,wu]
 by_cases h:n<=l.length
 ·rw [ao (by omega:(n:Int)<=(l.length:Int))]
  simp only [cond_true]
  rw [BK hl (by omega)]
  simp only [Option.bind_some,Int.toNat_natCast]
  rw [ac (by rw [aF];omega),ac (by rw [aF];omega),List.drop_zero,Nat.min_eq_left h,Nat.sub_self]
  simp [aT]
 ·rw [au (by omega:¬(n:Int)<=(l.length:Int))]
  simp only [cond_false]
  rw [ac (mxB (by omega)),ag (by omega),show (n:Int)-(l.length:Int)=((n-l.length:Nat):Int) from by omega,ii (by omega)]
  simp only [Option.bind_some,rleq,aJ]
  rw [ac (mxB (by simp [aT];omega)),Nat.min_eq_right (by omega),ng (by omega),List.take_of_length_le (by omega)]
end Go.SH
namespace Go.SH
open IntKind (i64 u64 i32 u8)
theorem Dv (c:ak):jf c=some (bV c):=by
 have s0:bS c 0=some (bif (c.2.1.1 !=0)&&(ae c.2.1.1 !=0) then .inl (.inl ()) else .inr 1):=by
  unfold bS
  simp only [kU,Option.bind_some]
  cases (c.2.1.1 !=0) <;> cases (ae c.2.1.1 !=0) <;> rfl
 have s1:bS c 1=some (bif (c.2.1.2 !=0)&&((ae c.2.1.2 !=0)||(c.2.1.1==0)) then .inl (.inl ()) else .inr 2):=by
  unfold bS
  simp only [kU,Option.bind_some]
  cases (c.2.1.2 !=0) <;> cases (ae c.2.1.2 !=0) <;> cases (c.2.1.1==0) <;> rfl
 have s2:bS c 2=some (.inl (.inr ())):=rfl
 have hl:ap (bS c) 0=some (bif lG c.2.1 then .inr () else .inl ()):=by
  unfold lG
  rw [aj,s0]
  cases h1:(c.2.1.1==0) with
  | true=>
   have e1:(c.2.1.1 !=0)=false:=by simp [bne,h1]
   rw [e1]
   simp only [Bool.false_and,cond_false]
   rw [aj,s1,h1,Bool.or_true,Bool.and_true]
   cases h2:(c.2.1.2==0) with
   | true=>
    have e2:(c.2.1.2 !=0)=false:=by simp [bne,h2]
    rw [e2]
    simp only [cond_false]
    rw [aj,s2];rfl
   | false=>
    have e2:(c.2.1.2 !=0)=true:=by simp [bne,h2]
    rw [e2];rfl
  | false=>
   have e1:(c.2.1.1 !=0)=true:=by simp [bne,h1]
   rw [e1]
   simp only [Bool.true_and,cond_false]
   cases h3:(ae c.2.1.1==0) with
   | false=>
    have e3:(ae c.2.1.1 !=0)=true:=by simp [bne,h3]
    rw [e3];rfl
   | true=>
    have e3:(ae c.2.1.1 !=0)=false:=by simp [bne,h3]
    rw [e3]
    simp only [cond_false,Bool.true_and]
    rw [aj,s1,h1,Bool.or_false]
    cases h2:(c.2.1.2==0) with
    | true=>
     have e2:(c.2.1.2 !=0)=false:=by simp [bne,h2]
     rw [e2]
     simp only [Bool.false_and,cond_false]
     rw [aj,s2];rfl
    | false=>
     have e2:(c.2.1.2 !=0)=true:=by simp [bne,h2]
     rw [e2]
     cases h4:(ae c.2.1.2==0) with
     | true=>
      have e4:(ae c.2.1.2 !=0)=false:=by simp [bne,h4]
      rw [e4]
      simp only [Bool.and_false,cond_false]
      rw [aj,s2];rfl
     | false=>
      have e4:(ae c.2.1.2 !=0)=true:=by simp [bne,h4]
      rw [e4];rfl
 unfold jf bV
 rw [hl]
 simp only [qi,kU,Option.bind_some,bt]
 have hm:∀b:Bool,((match (bif b then (.inr ():Unit⊕Unit) else .inl ()) with | .inl _=>some false | .inr _=>some true:Option Bool))=some b:=fun b=>by cases b <;> rfl
 cases hp:aO c.2.2.2 with
 | false=>simp
 | true=>
  simp only [Bool.not_true,cond_false,Bool.true_and]
  by_cases h2:c.2.2.1=2
  ·rw [h2]
   have e0:((2:Int)==0)=false:=rfl
   have e1:((2:Int)==1)=false:=rfl
   simp only [beq_self_eq_true,cond_true,e0,e1,Bool.or_self,cond_false,Bool.true_and]
   cases (c.1==0) <;> cases (c.2.1.1==0) <;> rfl
  ·have e2:(c.2.2.1==2)=false:=by simpa using h2
   rw [e2]
   simp only [cond_false,Bool.false_and]
   by_cases h0:c.2.2.1=0
   ·rw [h0]
    have e0:((0:Int) !=0)=false:=rfl
    simp only [e0,cond_false,beq_self_eq_true,Bool.true_or,cond_true]
    rw [ag (x:=(1:Int)+0) (by omega)]
    have:((1:Int)+0)=0+1:=rfl
    rw [this]
    cases h3:(ae c.1==0+1) with
    | true=>simp only [bne,h3];cases lG c.2.1 <;> rfl
    | false=>simp only [bne,h3];rfl
   ·have e0:(c.2.2.1 !=0)=true:=by simp [h0]
    have e0':(c.2.2.1==0)=false:=by simpa using h0
    rw [e0,e0']
    by_cases h1:c.2.2.1=1
    ·rw [h1]
     have e1:((1:Int) !=1)=false:=rfl
     simp only [e1,cond_true,cond_false,beq_self_eq_true,Bool.or_true]
     rw [ag (x:=(1:Int)+1) (by omega)]
     cases h3:(ae c.1==1+1) with
     | true=>simp only [bne,h3];cases lG c.2.1 <;> rfl
     | false=>simp only [bne,h3];rfl
    ·have e1:(c.2.2.1 !=1)=true:=by simp [h1]
     have e1':(c.2.2.1==1)=false:=by simpa using h1
     rw [e1,e1'];rfl
def vF (l:List ak) (i:Nat):Bool:=match l[i]? with
 | some c=>bV c&&(!((c.2.2.1==1)&&((i+1==l.length)||(match l[i+1]? with | some d=>(d.2.2.1 !=2) || !(d.2.2.2==c.2.2.2) | none=>true))) &&
   !((c.2.2.1==2)&&((i==0)||(match l[i-1]? with | some d=>d.2.2.1 !=1 | none=>true))))
 | none=>true
theorem As {l:List ak} (hl:l.length<=1000) {i:Nat} (hi:i<l.length):dM l (i:Int)=some (bif vF l i then .inr ((i+1:Nat):Int) else .inl (.inl ())):=by
 have hc:l[i]?=some l[i]:=List.getElem?_eq_getElem hi
 unfold dM vF
 simp only [bt]
 rw [ao (by omega:(i:Int)<(l.length:Int))]
 simp only [Option.bind_some,cond_true,aP,hc,Dv,EI]
 rw [ag (x:=(i:Int)+1) (by omega)]
 have e1:(i:Int)+1=((i+1:Nat):Int):=by omega
 rw [e1,aP]
 have eb:(((i+1:Nat):Int)==(l.length:Int))=(i+1==l.length):=by rw [Bool.eq_iff_iff];simp only [beq_iff_eq];omega
 have e0:((i:Int)==0)=(i==0):=by rw [Bool.eq_iff_iff];simp only [beq_iff_eq];omega
 rw [eb,e0]
 cases hm:bV l[i] with
 | false=>rfl
 | true=>
  simp only [Bool.not_true,cond_false,Bool.true_and]
  have hB:((bif l[i].2.2.1==1 then bif i+1==l.length then some true else (l[i+1]?).bind fun x32=>bif x32.2.2.1 !=2 then some true else (l[i+1]?).bind fun x33=>some (!(x33.2.2.2==l[i].2.2.2)) else some false:Option Bool)) =
    some ((l[i].2.2.1==1)&&((i+1==l.length)||(match l[i+1]? with | some d=>(d.2.2.1 !=2) || !(d.2.2.2==l[i].2.2.2) | none=>true))):=by
   cases l[i].2.2.1==1 with
   | false=>rfl
   | true=>
    by_cases hlast:i+1=l.length
    ·have:(i+1==l.length)=true:=by simpa using hlast
     rw [this];rfl
    ·have:(i+1==l.length)=false:=by simpa using hlast
     rw [this,List.getElem?_eq_getElem (by omega:i+1<l.length)]
     simp only [cond_true,cond_false,Option.bind_some,Bool.false_or,Bool.true_and]
     cases (l[i+1].2.2.1 !=2) <;> rfl
  rw [hB]
  simp only [Option.bind_some]
  cases ((l[i].2.2.1==1)&&((i+1==l.length)||(match l[i+1]? with | some d=>(d.2.2.1 !=2) || !(d.2.2.2==l[i].2.2.2) | none=>true))) with
  | true=>rfl
  | false=>
   simp only [cond_false,Bool.not_false,Bool.true_and]
   have hC:((bif l[i].2.2.1==2 then bif i==0 then some true else (getI l (i64.wrap ((i:Int)-1))).bind fun x39=>some (x39.2.2.1 !=1) else some false:Option Bool)) =
     some ((l[i].2.2.1==2)&&((i==0)||(match l[i-1]? with | some d=>d.2.2.1 !=1 | none=>true))):=by
    cases l[i].2.2.1==2 with
    | false=>rfl
    | true=>
     by_cases h0:i=0
     ·have:(i==0)=true:=by simpa using h0
      rw [this];rfl
     ·have:(i==0)=false:=by simpa using h0
      rw [this,ag (by omega),show (i:Int)-1=((i-1:Nat):Int) from by omega,aP,List.getElem?_eq_getElem (by omega:i-1<l.length)]
      rfl
   rw [hC]
   cases ((l[i].2.2.1==2)&&((i==0)||(match l[i-1]? with | some d=>d.2.2.1 !=1 | none=>true))) <;> rfl
theorem FC (l:List ak):(∀i,i<l.length->vF l i=true)<->∀i,i<l.length->okAt l i=true:=by
 constructor
 ·intro h i hi
  have hc:l[i]?=some l[i]:=List.getElem?_eq_getElem hi
  have hk:=h i hi
  unfold vF at hk
  unfold okAt
  rw [hc] at hk ⊢
  simp only [Bool.and_eq_true,Bool.not_eq_true',Bool.and_eq_false_imp,Bool.or_eq_false_iff,beq_iff_eq] at hk
  obtain ⟨k1,k2,k3⟩:=hk
  simp only
  rw [k1]
  have hlast:((l[i].2.2.1==1)&&(i+1==l.length))=false:=by
   cases h1:(l[i].2.2.1==1) with
   | false=>rfl
   | true=>rw [(k2 (by simpa using h1)).1];rfl
  rw [hlast]
  by_cases h0:i=0
  ·subst h0
   have e2:(l[0].2.2.1==2)=false:=by
    cases h2:(l[0].2.2.1==2) with
    | false=>rfl
    | true=>have:=(k3 (by simpa using h2)).1;simp at this
   rw [e2];rfl
  ·have hd:l[i-1]?=some l[i-1]:=List.getElem?_eq_getElem (by omega)
   have hkd:=h (i-1) (by omega)
   unfold vF at hkd
   rw [hd,show i-1+1=i from by omega,hc] at hkd
   simp only [Bool.and_eq_true,Bool.not_eq_true',Bool.and_eq_false_imp,Bool.or_eq_false_iff,beq_iff_eq,bne_eq_false_iff_eq,Bool.not_eq_false'] at hkd
   rw [hd,ao (by omega:0<i)]
   simp only [Bool.true_and]
   cases h1:(l[i-1].2.2.1==1) with
   | true=>
    obtain ⟨_,q1,q2⟩:=hkd.2.1 (by simpa using h1)
    have e2:(l[i].2.2.1==2)=true:=by simpa using q1
    have e3:(l[i-1].2.2.2==l[i].2.2.2)=true:=by
     have:l[i].2.2.2=l[i-1].2.2.2:=by simpa using q2
     rw [this];simp
    rw [e2,e3];rfl
   | false=>
    have e2:(l[i].2.2.1==2)=false:=by
     cases h2:(l[i].2.2.1==2) with
     | false=>rfl
     | true=>
      have:=(k3 (by simpa using h2)).2
      rw [hd] at this
      have:l[i-1].2.2.1=1:=by simpa using this
      rw [this] at h1;simp at h1
    rw [e2];rfl
 ·intro h
  have hokc:∀i (hi:i<l.length),bV l[i]=true:=fun i hi=>by
   have hk:=h i hi
   unfold okAt at hk
   rw [List.getElem?_eq_getElem hi] at hk
   simp only [Bool.and_eq_true] at hk
   exact hk.1
  intro i hi
  have hc:l[i]?=some l[i]:=List.getElem?_eq_getElem hi
  have hk:=h i hi
  unfold okAt at hk
  unfold vF
  rw [hc] at hk ⊢
  simp only
  rw [hokc i hi]
  simp only [Bool.and_eq_true,beq_iff_eq,Bool.not_eq_true',Bool.and_eq_false_imp,beq_eq_false_iff_ne] at hk
  obtain ⟨_,k2,_,k4⟩:=hk
  have p1:((l[i].2.2.1==1)&&((i+1==l.length)||(match l[i+1]? with | some d=>(d.2.2.1 !=2) || !(d.2.2.2==l[i].2.2.2) | none=>true)))=false:=by
   cases h1:(l[i].2.2.1==1) with
   | false=>rfl
   | true=>
    have hne:=k4 (by simpa using h1)
    have hlt:i+1<l.length:=by omega
    have hd:l[i+1]?=some l[i+1]:=List.getElem?_eq_getElem hlt
    have hkd:=h (i+1) hlt
    unfold okAt at hkd
    rw [hd,show i+1-1=i from by omega,hc,ao (by omega:0<i+1)] at hkd
    simp only [h1,Bool.and_self,Bool.not_true,Bool.false_or,Bool.and_eq_true,beq_iff_eq] at hkd
    have e1:(i+1==l.length)=false:=by simpa using hne
    have e2:(l[i+1].2.2.1 !=2)=false:=by
     have:(l[i+1].2.2.1==2)=true:=hkd.2.1.symm
     simp [bne,this]
    have e3:(l[i+1].2.2.2==l[i].2.2.2)=true:=by rw [hkd.2.2.1];simp
    rw [hd,e1]
    simp only [e2,e3];rfl
  have p2:((l[i].2.2.1==2)&&((i==0)||(match l[i-1]? with | some d=>d.2.2.1 !=1 | none=>true)))=false:=by
   cases h2:(l[i].2.2.1==2) with
   | false=>rfl
   | true=>
    rw [h2] at k2
    simp only [Bool.and_eq_true,decide_eq_true_eq] at k2
    have hd:l[i-1]?=some l[i-1]:=List.getElem?_eq_getElem (by omega)
    rw [hd] at k2 ⊢
    have e0:(i==0)=false:=by simp;omega
    have:(l[i-1].2.2.1==1)=true:=k2.2
    rw [e0]
    simp [bne,this]
  rw [p1,p2];rfl
theorem xj (l:List ak):g7 l=some (aE l):=by
 unfold g7 aE
 simp only [bt,Option.bind_some]
 by_cases h:l.length<=1000
 ·rw [au (by omega:¬(l.length:Int)>1000),ao h]
  simp only [cond_false,Bool.true_and]
  rw [l8 (step:=dM l) (n:=l.length) (ok:=vF l) (e:=.inr ()) (b:=.inl ()) (fun i hi=>As h hi) (by unfold dM;simp)]
  have:(List.range l.length).all (vF l)=(List.range l.length).all (okAt l):=by
   rw [Bool.eq_iff_iff]
   simp only [List.all_eq_true,List.mem_range]
   exact FC l
  rw [this]
  cases (List.range l.length).all (okAt l) <;> rfl
 ·rw [ao (by omega:(l.length:Int)>1000),au h];rfl
end Go.SH
namespace Go.SH
theorem qj {α:Type} {n:Nat} {u:Nat->α} {g:List α} (hl:g.length=n) (h:∀i,i<n->g[i]?=some (u i)):(List.range n).map u=g:=by
 refine List.ext_getElem? fun i=>?_
 rw [List.getElem?_map]
 by_cases hi:i<n
 ·rw [List.getElem?_range hi,h i hi];rfl
 ·rw [List.getElem?_eq_none (by simp;omega),List.getElem?_eq_none (by omega)];rfl
theorem sR {R C:Nat} (hR:R<=200) (hC:C<=200) (p:PenT):ex (R:Int) (C:Int) p=some (dE R C p):=by
 unfold ex
 have h:=gt (step:=eg (R:Int) (C:Int) p) (n:=R) (u:=fun _=>aT C p) (fun k acc hk ha=>by
  unfold eg
  rw [ao (by omega:(k:Int)<(R:Int))]
  simp only [Option.bind_some,cond_true]
  rw [ii (by omega)]
  simp only [Option.bind_some,rleq,aJ]
  rw [ac (mxL (by simp;omega)),ag (by omega)];rfl) (fun acc ha=>by
  unfold eg
  rw [au (by omega:¬(R:Int)<(R:Int))]
  simp only [Option.bind_some,cond_false,rleq,aJ])
 rw [h]
 simp only [Option.bind_some,rleq,aJ]
 congr 1
 unfold dE
 rw [List.map_const']
 simp
theorem Dr {g:aA} {R C:Nat} (hg:gok g R C) (hs:szR R C) {row:Int} (hr:0<=row/\row<R) {l:List ak} (hl:aE l=true/\l.length=C):je g row l=some (setR g row l):=by
 unfold szR at hs
 have hlen:g.length=R:=hg.1
 obtain ⟨r,rfl⟩:∃k:Nat,row=k:=⟨row.toNat,by omega⟩
 unfold je
 have h:=gt (step:=eV g (r:Int) l) (n:=g.length) (u:=fun k=>if k=r then l else (g[k]?).getD []) (fun k acc hk ha=>by
  obtain ⟨x,hx,hxl,hxm⟩:=fR hg (i:=k) (by omega)
  unfold eV
  simp only [bt]
  rw [ao (by omega:(k:Int)<(g.length:Int))]
  simp only [Option.bind_some,cond_true,aP,hx,xj,hl.1,hl.2,hxl,beq_self_eq_true,rleq,aJ]
  by_cases e:k=r
  ·subst e
   simp only [beq_self_eq_true,cond_true,Option.bind_some,if_true]
   rw [ac (mxL (by simp;omega))]
   simp only [Option.bind_some,rleq,aJ]
   rw [ag (by omega)];rfl
  ·have:((k:Int)==(r:Int))=false:=by simp;omega
   rw [this,if_neg e]
   simp only [cond_false,Option.bind_some]
   rw [ac (mxL (by simp;omega))]
   simp only [Option.bind_some,rleq,aJ]
   rw [ag (by omega)];rfl) (fun acc ha=>by
  unfold eV
  rw [au (by omega:¬(g.length:Int)<(g.length:Int))]
  simp only [Option.bind_some,cond_false,rleq,aJ])
 rw [h]
 simp only [Option.bind_some,rleq,aJ]
 congr 1
 unfold setR
 rw [Int.toNat_natCast]
 refine qj (by simp) fun i hi=>?_
 by_cases e:i=r
 ·subst e
  rw [List.getElem?_set_self hi,if_pos rfl]
 ·rw [List.getElem?_set_ne (by omega),if_neg e,List.getElem?_eq_getElem hi];rfl
theorem BW {g:aA} {T B:Nat} {k:Int} {b:List ak} (h1:T<=B) (h2:B<g.length) (hk:-((B+1-T:Nat):Int)<=k/\k<=((B+1-T:Nat):Int)) {i:Nat} (hi:i<g.length) :
  (jG g T B k b)[i]?=if i<T\/B<i then g[i]? else if (i:Int)+k<T\/(B:Int)<(i:Int)+k then some b else g[((i:Int)+k).toNat]?:=by
 unfold jG
 simp only
 by_cases h0:0<=k
 ·obtain ⟨K,rfl⟩:∃j:Nat,k=j:=⟨k.toNat,by omega⟩
  rw [if_pos h0]
  simp only [Int.toNat_natCast]
  by_cases c1:i<T
  ·rw [if_pos (.inl c1),List.getElem?_append_left (by simp;omega),List.getElem?_take_of_lt c1]
  ·rw [List.getElem?_append_right (by simp;omega)]
   have e1:i-(g.take T).length=i-T:=by simp;omega
   have e2:(((g.drop T).take (B+1-T)).drop K).length=B+1-T-K:=by simp;omega
   rw [e1]
   by_cases c2:i+K<=B
   ·rw [if_neg (by omega),if_neg (by omega),List.getElem?_append_left (by omega),List.getElem?_drop,List.getElem?_take_of_lt (by omega),List.getElem?_drop]
    congr 1;omega
   ·rw [List.getElem?_append_right (by omega),e2]
    by_cases c3:i<=B
    ·rw [if_neg (by omega),if_pos (by omega),List.getElem?_append_left (by simp;omega),List.getElem?_replicate,if_pos (by omega)]
    ·rw [if_pos (by omega),List.getElem?_append_right (by simp;omega),List.length_replicate,List.getElem?_drop]
     congr 1;omega
 ·obtain ⟨K,rfl⟩:∃j:Nat,k = -(j:Int):=⟨(-k).toNat,by omega⟩
  rw [if_neg h0]
  simp only [Int.neg_neg,Int.toNat_natCast]
  by_cases c1:i<T
  ·rw [if_pos (.inl c1),List.getElem?_append_left (by simp;omega),List.getElem?_take_of_lt c1]
  ·rw [List.getElem?_append_right (by simp;omega)]
   have e1:i-(g.take T).length=i-T:=by simp;omega
   rw [e1]
   by_cases c2:i<T+K
   ·rw [if_neg (by omega),if_pos (by omega),List.getElem?_append_left (by simp;omega),List.getElem?_replicate,if_pos (by omega)]
   ·rw [List.getElem?_append_right (by simp;omega),List.length_replicate]
    by_cases c3:i<=B
    ·rw [if_neg (by omega),if_neg (by omega),List.getElem?_append_left (by simp;omega),List.getElem?_take_of_lt (by omega),List.getElem?_drop]
     congr 1;omega
    ·rw [if_pos (by omega),List.getElem?_append_right (by simp;omega),List.getElem?_drop]
     congr 1;simp;omega
theorem jN {g:aA} {R C:Nat} {f bottom n:Int} {p:PenT} (hg:gok g R C) (hs:szR R C) (h1:0<=f) (h2:f<=bottom) (h3:bottom<R) (hn:-1000000<=n/\n<=1000000):cy g f bottom n p=some (scrM g f bottom n p):=by
 have hw:=jy hg hs
 unfold szR at hs
 have hlen:g.length=R:=hg.1
 obtain ⟨T,rfl⟩:∃k:Nat,f=k:=⟨f.toNat,by omega⟩
 obtain ⟨B,rfl⟩:∃k:Nat,bottom=k:=⟨bottom.toNat,by omega⟩
 unfold cy
 simp only [bt]
 simp only [bto,Option.bind_some]
 rw [au (by omega:¬(T:Int)<0),au (by omega:¬(T:Int)>(B:Int)),au (by omega:¬(B:Int)>=(g.length:Int))]
 simp only [Bool.or_self,cond_false]
 have em:((bif decide (n>300) then some 300 else some n:Option Int).bind fun x4=>bif decide (x4 < -300) then some (-300) else some x4)=some (if n>300 then 300 else if n < -300 then -300 else n):=by
  by_cases c1:n>300
  ·rw [ao c1,if_pos c1];rfl
  ·rw [au c1,if_neg c1]
   simp only [cond_false,Option.bind_some]
   by_cases c2:n < -300
   ·rw [ao c2,if_pos c2];rfl
   ·rw [au c2,if_neg c2];rfl
 have em':∀{β:Type} (k:Int->Option β),((bif decide (n>300) then some 300 else some n:Option Int).bind fun x4=>(bif decide (x4 < -300) then some (-300) else some x4:Option Int).bind k)=k (if n>300 then 300 else if n < -300 then -300 else n):=fun k=>by
  have:=congrArg (fun o=>Option.bind o k) em
  rw [Option.bind_assoc] at this
  exact this
 rw [em']
 obtain ⟨m,hm⟩:∃m,(if n>300 then (300:Int) else if n < -300 then -300 else n)=m:=⟨_,rfl⟩
 rw [hm]
 have hK:=ym (B+1-T) n
 have hmK:-((B+1-T:Nat):Int)<=kz (B+1-T) n/\kz (B+1-T) n<=((B+1-T:Nat):Int)/\(kz (B+1-T) n=m\/(kz (B+1-T) n=((B+1-T:Nat):Int)/\((B+1-T:Nat):Int)<=m)\/(kz (B+1-T) n = -((B+1-T:Nat):Int)/\m <= -((B+1-T:Nat):Int))):=by
  refine ⟨hK.1,hK.2,?_⟩
  rw [<-hm]
  unfold kz
  split <;> split <;> split <;> (try split) <;> omega
 have hmr:-300<=m/\m<=300:=by rw [<-hm];split <;> (try split) <;> omega
 generalize hk:kz (B+1-T) n=K at *
 have hg0:∃b,g[0]?=some b/\b.length=C:=by
  obtain ⟨b,q1,q2,_⟩:=fR hg (i:=0) (by omega)
  exact ⟨b,q1,q2⟩
 obtain ⟨b0,hb0,hb1⟩:=hg0
 have h:=gt (step:=dR g (T:Int) (B:Int) m p) (n:=g.length) (u:=fun i=>if i<T\/B<i then (g[i]?).getD [] else if (i:Int)+m<T\/(B:Int)<(i:Int)+m then aT C p else (g[((i:Int)+m).toNat]?).getD []) (fun k acc hk ha=>by
  obtain ⟨x,hx,hxl,hxm⟩:=fR hg (i:=k) (by omega)
  unfold dR
  simp only [bt]
  rw [ao (by omega:(k:Int)<(g.length:Int))]
  simp only [Option.bind_some,cond_true,aP,hx,bto,rleq,aJ,ag (x:=(k:Int)+m) (by omega)]
  by_cases c1:k<T\/B<k
  ·have:(decide ((k:Int)<(T:Int))||decide ((k:Int)>(B:Int)))=true:=by simp;omega
   rw [this,if_pos c1]
   simp only [cond_true]
   rw [ac (mxL (by simp;omega))]
   simp only [Option.bind_some,rleq,aJ]
   rw [ag (by omega)];rfl
  ·have:(decide ((k:Int)<(T:Int))||decide ((k:Int)>(B:Int)))=false:=by simp;omega
   rw [this,if_neg c1]
   simp only [cond_false]
   by_cases c2:(k:Int)+m<T\/(B:Int)<(k:Int)+m
   ·have:(decide ((k:Int)+m<(T:Int))||decide ((k:Int)+m>(B:Int)))=true:=by simp;omega
    rw [this,if_pos c2]
    simp only [cond_true]
    rw [show (0:Int)=((0:Nat):Int) from rfl,aP,hb0]
    simp only [Option.bind_some]
    rw [hb1,ii (by omega)]
    simp only [Option.bind_some,rleq,aJ]
    rw [ac (mxL (by simp;omega))]
    simp only [Option.bind_some,rleq,aJ]
    rw [ag (by omega)];rfl
   ·have:(decide ((k:Int)+m<(T:Int))||decide ((k:Int)+m>(B:Int)))=false:=by simp;omega
    rw [this,if_neg c2]
    simp only [cond_false]
    obtain ⟨y,hy,hyl,hym⟩:=fR hg (i:=((k:Int)+m).toNat) (by omega)
    have e:(k:Int)+m=((((k:Int)+m).toNat:Nat):Int):=by omega
    have hgy:getI g ((k:Int)+m)=some y:=by rw [e,aP];exact hy
    rw [hgy,hy]
    simp only [Option.bind_some]
    rw [ac (mxL (by simp;omega))]
    simp only [Option.bind_some,rleq,aJ]
    rw [ag (by omega)];rfl) (fun acc ha=>by
  unfold dR
  rw [au (by omega:¬(g.length:Int)<(g.length:Int))]
  simp only [Option.bind_some,cond_false,rleq,aJ])
 rw [h]
 simp only [Option.bind_some,rleq,aJ]
 congr 1
 unfold scrM qf
 rw [Int.toNat_natCast,Int.toNat_natCast,hk,hw]
 refine qj (oq (by omega) (by omega) hK) fun i hi=>?_
 rw [BW (by omega) (by omega) hK hi]
 by_cases c1:i<T\/B<i
 ·rw [if_pos c1,if_pos c1,List.getElem?_eq_getElem hi];rfl
 ·rw [if_neg c1,if_neg c1]
  obtain ⟨m1,m2,m3⟩:=hmK
  by_cases c2:(i:Int)+m<T\/(B:Int)<(i:Int)+m
  ·rw [if_pos c2,if_pos (by omega)]
  ·have:K=m:=by omega
   rw [if_neg c2,this,if_neg c2,List.getElem?_eq_getElem (by omega:((i:Int)+m).toNat<g.length)];rfl
theorem Ca {g:aA} {b:List ak} (hg:g[0]?=some b) (x:Int×Int):fY g x=some (ed g x):=by
 unfold fY ed
 rw [lS hg,show (0:Int)=((0:Nat):Int) from rfl,aP,hg]
 rw [show decide (x.1>=((0:Nat):Int))=decide (((0:Nat):Int)<=x.1) from rfl,show decide (x.2>=((0:Nat):Int))=decide (((0:Nat):Int)<=x.2) from rfl]
 cases decide (((0:Nat):Int)<=x.1) <;> cases decide (x.1<(g.length:Int)) <;> cases decide (((0:Nat):Int)<=x.2) <;> rfl
theorem At {g:aA} {R C:Nat} {f t:Int×Int} {p:PenT} (hg:gok g R C) (hs:szR R C):dB g f t p=some (j4 g f t p):=by
 have hw:=jy hg hs
 unfold szR at hs
 have hlen:g.length=R:=hg.1
 obtain ⟨b0,hb0,hb1,_⟩:=fR hg (i:=0) (by omega)
 unfold dB j4
 simp only [bt]
 simp only [Ca hb0,Option.bind_some,bto]
 cases hpl:(ed g f&&ed g t) with
 | false=>
  have:(!ed g f || !ed g t)=true:=by rw [<-Bool.not_and,hpl];rfl
  rw [this];rfl
 | true=>
  have:(!ed g f || !ed g t)=false:=by rw [<-Bool.not_and,hpl];rfl
  rw [this,hw]
  simp only [cond_false,cond_true]
  simp only [ed,Bool.and_eq_true,decide_eq_true_eq] at hpl
  obtain ⟨⟨f1,f2,f3,f4⟩,t1,t2,t3,t4⟩:=hpl
  rw [hw] at f4 t4
  have h:=gt (step:=ef g f t p) (n:=g.length) (u:=fun k=>hZ C f t p k ((g[k]?).getD [])) (fun k acc hk ha=>by
   obtain ⟨x,hx,hxl,hxm⟩:=fR hg (i:=k) (by omega)
   unfold ef hZ
   simp only [bt]
   rw [ao (by omega:(k:Int)<(g.length:Int)),show (0:Int)=((0:Nat):Int) from rfl]
   simp only [Option.bind_some,cond_true,aP,hx,hb0,hb1,bt2,rleq,aJ,Option.getD_some,ag (x:=t.2+1) (by omega)]
   by_cases c:f.1<=(k:Int)/\(k:Int)<=t.1
   ·have:(decide ((k:Int)>=f.1)&&decide ((k:Int)<=t.1))=true:=by simp;omega
    rw [this,if_pos c]
    simp only [cond_true]
    have e1:((bif (k:Int)==f.1 then some f.2 else some ((0:Nat):Int):Option Int))=some (if (k:Int)=f.1 then f.2 else ((0:Nat):Int)):=by
     by_cases e:(k:Int)=f.1
     ·rw [if_pos e];have:((k:Int)==f.1)=true:=by simpa using e
      rw [this];rfl
     ·rw [if_neg e];have:((k:Int)==f.1)=false:=by simpa using e
      rw [this];rfl
    rw [e1]
    simp only [Option.bind_some]
    have e2:∀z:Int,((bif (k:Int)==t.1 then some (z,t.2+1) else some (z,(C:Int)):Option (Int×Int)))=some (z,if (k:Int)=t.1 then t.2+1 else (C:Int)):=fun z=>by
     by_cases e:(k:Int)=t.1
     ·rw [if_pos e];have:((k:Int)==t.1)=true:=by simpa using e
      rw [this];rfl
     ·rw [if_neg e];have:((k:Int)==t.1)=false:=by simpa using e
      rw [this];rfl
    rw [e2]
    simp only [Option.bind_some]
    rw [oB hxm]
    simp only [Option.bind_some,rleq,aJ]
    rw [ac (mxL (by simp;omega)),ag (by omega)];rfl
   ·have:(decide ((k:Int)>=f.1)&&decide ((k:Int)<=t.1))=false:=by simp;omega
    rw [this,if_neg c]
    simp only [cond_false,Option.bind_some]
    rw [oB hxm]
    have:gc x (C:Int) ((0:Nat):Int) p=x:=by
     unfold gc
     rw [if_pos]
     unfold low0 hiL
     split <;> split <;> omega
    rw [this]
    simp only [Option.bind_some,rleq,aJ]
    rw [ac (mxL (by simp;omega)),ag (by omega)];rfl) (fun acc ha=>by
   unfold ef
   rw [au (by omega:¬(g.length:Int)<(g.length:Int))]
   simp only [Option.bind_some,cond_false,rleq,aJ])
  rw [h]
  simp only [Option.bind_some,rleq,aJ]
  congr 1
  refine qj (by simp) fun i hi=>?_
  rw [List.getElem?_mapIdx,List.getElem?_eq_getElem hi];rfl
theorem xm {g:aA} {R C R' C' gone:Nat} (hg:gok g R C) (hs:szR R C) (hs':szR R' C') (hgo:gone<=R):g6 g (R':Int) (C':Int) (gone:Int)=some (fitG g R' C' gone):=by
 unfold szR at hs hs'
 have hlen:g.length=R:=hg.1
 let u:Nat->List ak:=fun i=>match g[gone+i]? with | some l=>fitM l C' | none=>aT C' (0,0,0)
 have hu:fitG g R' C' gone=(List.range R').map u:=rfl
 have l1:∀(m k:Nat),k+m=min (R-gone) R'->ap (cq g (R':Int) (C':Int)) (((gone+k:Nat):Int),(List.range k).map u)=some ((List.range (min (R-gone) R')).map u):=by
  intro m
  induction m with
  | zero=>
   intro k h
   have e:k=min (R-gone) R':=by omega
   rw [aj]
   have:cq g (R':Int) (C':Int) (((gone+k:Nat):Int),(List.range k).map u)=some (.inl ((List.range k).map u)):=by
    unfold cq
    simp only [bt]
    simp only [bt2,Option.bind_some,List.length_map,List.length_range,rleq,aJ]
    have:(decide (((gone+k:Nat):Int)<(g.length:Int))&&decide ((k:Int)<(R':Int)))=false:=by
     rw [Bool.eq_false_iff];simp only [ne_eq,Bool.and_eq_true,decide_eq_true_eq];omega
    rw [this];rfl
   rw [this,e]
  | succ m ih=>
   intro k h
   obtain ⟨x,hx,hxl,hxm⟩:=fR hg (i:=gone+k) (by omega)
   rw [aj]
   have:cq g (R':Int) (C':Int) (((gone+k:Nat):Int),(List.range k).map u)=some (.inr (((gone+(k+1):Nat):Int),(List.range (k+1)).map u)):=by
    unfold cq
    simp only [bt]
    simp only [bt2,Option.bind_some,List.length_map,List.length_range,rleq,aJ,aP,hx]
    rw [ao (by omega:((gone+k:Nat):Int)<(g.length:Int)),ao (by omega:(k:Int)<(R':Int))]
    simp only [Bool.and_self,cond_true]
    rw [FD hxm (by omega)]
    simp only [Option.bind_some,rleq,aJ]
    rw [ac (mxL (by simp;omega)),ag (by omega),List.range_succ,List.map_append]
    have:u k=fitM x C':=by show (match g[gone+k]? with | some l=>fitM l C' | none=>aT C' (0,0,0))=_;rw [hx]
    simp only [List.map_cons,List.map_nil,this]
    rfl
   rw [this]
   exact ih (k+1) (by omega)
 have l2:∀(m k:Nat),k+m=R'->min (R-gone) R'<=k->ap (cQ (R':Int) (C':Int)) ((List.range k).map u)=some ((List.range R').map u):=by
  intro m
  induction m with
  | zero=>
   intro k h hk
   have e:k=R':=by omega
   subst e
   rw [aj]
   have:cQ (k:Int) (C':Int) ((List.range k).map u)=some (.inl ((List.range k).map u)):=by
    unfold cQ
    simp only [bt,Option.bind_some,List.length_map,List.length_range,rleq,aJ]
    rw [au (by omega:¬(k:Int)<(k:Int))];rfl
   rw [this]
  | succ m ih=>
   intro k h hk
   rw [aj]
   have:cQ (R':Int) (C':Int) ((List.range k).map u)=some (.inr ((List.range (k+1)).map u)):=by
    unfold cQ
    simp only [bt,Option.bind_some,List.length_map,List.length_range,rleq,aJ]
    rw [ao (by omega:(k:Int)<(R':Int)),ii (by omega)]
    simp only [cond_true,Option.bind_some,rleq,aJ]
    rw [ac (mxL (by simp;omega)),List.range_succ,List.map_append]
    have:u k=aT C' (0,0,0):=by show (match g[gone+k]? with | some l=>fitM l C' | none=>aT C' (0,0,0))=_;rw [List.getElem?_eq_none (by omega)]
    simp only [List.map_cons,List.map_nil,this]
   rw [this]
   exact ih (k+1) (by omega) (by omega)
 unfold g6
 have h1:=l1 (min (R-gone) R') 0 (by omega)
 have h1':ap (cq g (R':Int) (C':Int)) ((gone:Int),[])=some ((List.range (min (R-gone) R')).map u):=h1
 rw [h1']
 simp only [Option.bind_some,rleq,aJ]
 rw [l2 (R'-min (R-gone) R') (min (R-gone) R') (by omega) (by omega)]
 simp only [Option.bind_some,rleq,aJ,hu]
theorem B8:lm=kj:=rfl
theorem B9:ln=kg:=rfl
theorem sO {a b:aA} (ha:small a):gC a b=some (decide (a=b)):=by
 unfold gC
 simp only [bt,Option.bind_some]
 by_cases h:a.length=b.length
 ·rw [AH h]
  simp only [cond_false]
  rw [l8 (step:=eX a b) (n:=a.length) (ok:=fun i=>decide (a[i]?=b[i]?)) (e:=.inr ()) (b:=.inl ()) (fun i hi=>by
   unfold eX
   rw [ao (by omega:(i:Int)<(a.length:Int)),B8]
   simp only [bt,Option.bind_some,cond_true,aP,List.getElem?_eq_getElem hi,List.getElem?_eq_getElem (h▸hi:i<b.length),Option.some.injEq,wr1 hi ha.1]
   rw [Bv (ha.2 _ (List.getElem_mem hi))]
   simp only [Option.bind_some]
   cases decide (a[i]=b[i]) <;> rfl) (by unfold eX;simp),Br h]
  cases decide (a=b) <;> rfl
 ·rw [AG h,au (fun e=>h (by rw [e]))];rfl
theorem rC (n:Int):cH n=some (decide (1<=n/\n<=200)):=by
 unfold cH
 by_cases h:1<=n
 ·rw [ao (by omega:n>=1)];simp [h]
 ·rw [au (by omega:¬n>=1)];simp [h]
theorem Du (g:aA):jP g=some (gT g):=by
 unfold jP gT
 simp only [rC,bt,Option.bind_some]
 have eS:decide (1<=(g.length:Int)/\(g.length:Int)<=200)=decide (1<=g.length/\g.length<=200):=by rw [Bool.eq_iff_iff];simp;omega
 rw [eS]
 by_cases h1:1<=g.length/\g.length<=200
 ·rw [ao h1]
  obtain ⟨b,hb⟩:∃b,g[0]?=some b:=⟨_,List.getElem?_eq_getElem (by omega:0<g.length)⟩
  have hw:=lS hb
  have hg0:getI g 0=some b:=by rw [show (0:Int)=((0:Nat):Int) from rfl,aP,hb]
  rw [hg0]
  simp only [Option.bind_some,Bool.not_true,cond_false,Bool.true_and]
  have eW:decide (1<=(b.length:Int)/\(b.length:Int)<=200)=decide (1<=cU g/\cU g<=200):=by rw [hw,Bool.eq_iff_iff];simp;omega
  rw [eW]
  by_cases h2:1<=cU g/\cU g<=200
  ·rw [ao h2]
   simp only [Bool.not_true,cond_false,Option.bind_some,Bool.true_and]
   rw [l8 (step:=fE g) (n:=g.length) (ok:=fun i=>match g[i]? with | some l=>(l.length==cU g)&&aE l | none=>true) (e:=.inr ()) (b:=.inl ()) (fun i hi=>by
    unfold fE
    rw [ao (by omega:(i:Int)<(g.length:Int))]
    simp only [bt,Option.bind_some,cond_true,aP,List.getElem?_eq_getElem hi,hg0,xj,hw]
    rw [ag (by omega)]
    cases hl:(g[i].length==b.length) with
    | true=>
     have:((g[i].length:Int) !=(b.length:Int))=false:=AH (by simpa using hl)
     rw [this]
     cases aE g[i] <;> rfl
    | false=>
     have:((g[i].length:Int) !=(b.length:Int))=true:=AG (by simpa using hl)
     rw [this];rfl) (by unfold fE;simp)]
   have:(List.range g.length).all (fun i=>match g[i]? with | some l=>(l.length==cU g)&&aE l | none=>true)=g.all fun l=>(l.length==cU g)&&aE l:=by
    rw [Bool.eq_iff_iff]
    simp only [List.all_eq_true,List.mem_range]
    constructor
    ·intro h l hl
     obtain ⟨i,hi⟩:=List.getElem?_of_mem hl
     have:=h i (List.getElem?_eq_some_iff.1 hi).1
     rw [hi] at this;exact this
    ·intro h i hi
     rw [List.getElem?_eq_getElem hi]
     exact h _ (List.getElem_mem hi)
   rw [this]
   cases (g.all fun l=>(l.length==cU g)&&aE l) <;> rfl
  ·rw [au h2];rfl
 ·rw [au h1];rfl
end Go.SH
namespace Go.SH
def Sc.w (s:Sc):Int×Int×aA×aA×Int×Int×Bool×Int×Int×Int×Int×Int×Int×Int×Int×Int×Int×Int×Bool×Bool×Int×Int×Int×Int×Int×Bool×Bool×Int×Int×Int×Int×List Int:=
 (s.rows,s.cols,s.grid,s.main,s.row,s.col,s.late,s.pen.1,s.pen.2.1,s.pen.2.2,s.top,s.bottom,s.modes,
 s.sv0.1,s.sv0.2.1,s.sv0.2.2.1.1,s.sv0.2.2.1.2.1,s.sv0.2.2.1.2.2,s.sv0.2.2.2.1,s.sv0.2.2.2.2,
 s.sv1.1,s.sv1.2.1,s.sv1.2.2.1.1,s.sv1.2.2.1.2.1,s.sv1.2.2.1.2.2,s.sv1.2.2.2.1,s.sv1.2.2.2.2,s.tabs.1,s.tabs.2.1,s.tabs.2.2.1,s.tabs.2.2.2,s.title)
end Go.SH
namespace Go.SH
open IntKind (i64 u64 i32 u8)
theorem ab {α β:Type} {o:Option α} {f:α->Option β} {x:α} {r:Option β} (h1:o=some x) (h2:f x=r):o.bind f=r:=by rw [h1];exact h2
structure PreS (s:Sc) (R C:Nat):Prop where
 hr:s.rows=R
 hc:s.cols=C
 e:EnvS R C s.top s.bottom s.pen
 g:gok s.grid R C
 row:0<=s.row/\s.row<R
 col:0<=s.col/\s.col<C
 md:0<=s.modes/\s.modes<=255
theorem OkS.pre {s:Sc} {R C:Nat} (h:OkS s R C):PreS s R C:=⟨h.hr,h.hc,h.env,h.g,h.row,h.col,h.md⟩
theorem ug {n lo hi:Int} (h:lo<=hi):betw n lo hi=if n<lo then lo else if n>hi then hi else n:=by
 unfold betw
 by_cases a:hi<n
 ·simp only [if_pos a]
  rw [if_neg (by omega:¬n<lo)]
  split <;> omega
 ·simp only [if_neg a]
  by_cases b:n<lo
  ·rw [if_neg (by omega),if_pos b]
  ·rw [if_neg b]
   split <;> omega
theorem cO {n lo hi:Int} (h:lo<=hi):ah n lo hi=some (betw n lo hi):=by
 rw [ug h]
 unfold ah
 simp only [bt,Option.bind_some]
 by_cases h1:n<lo
 ·rw [ao h1,if_pos h1];rfl
 ·rw [au h1,if_neg h1]
  simp only [cond_false]
  by_cases h2:n>hi
  ·rw [ao h2,if_pos h2];rfl
  ·rw [au h2,if_neg h2];rfl
def hasB (m b:Int):Bool:=az .and .i64 m b !=0
theorem EZ:∀m:_root_.Fin 256,∀k:_root_.Fin 8,(let b:=dO[k.val]?.getD 0;!(b==0)&&(((Int.tmod (i64.wrap (Int.tdiv m.val b)) 2)==1)==hasB m.val b) &&
  bif hasB m.val b then decide (0<=(m.val:Int)-b)&&(decide ((m.val:Int)-b<=255)&&(!hasB (m.val-b) b&&((gr m.val b==m.val-b)&&(gN m.val b==m.val)))) else decide ((m.val:Int)+b<=255)&&((gN m.val b==m.val+b)&&(gr m.val b==m.val))&&decide (1<=b))=true:=by decide +kernel
theorem kH {x:ScrT} {b:Int} (hm:0<=x.2.2.2.2.2.2.2.2.2.2.1/\x.2.2.2.2.2.2.2.2.2.2.1<=255) (hb:b∈dO):aW x b=some (hasB x.2.2.2.2.2.2.2.2.2.2.1 b):=by
 obtain ⟨k,hk⟩:=vo hb
 have:=EZ ⟨x.2.2.2.2.2.2.2.2.2.2.1.toNat,by omega⟩ k
 simp only [hk,show ((x.2.2.2.2.2.2.2.2.2.2.1.toNat:Nat):Int)=x.2.2.2.2.2.2.2.2.2.2.1 from by omega,Bool.and_eq_true,Bool.not_eq_true',beq_iff_eq,beq_eq_false_iff_ne] at this
 unfold aW
 rw [ac this.1.1,this.1.2]
theorem xA {m b:Int} (hm:0<=m/\m<=255) (hb:b∈dO):(hasB m b=true->(0<=m-b/\m-b<=255)/\hasB (m-b) b=false/\gr m b=m-b/\gN m b=m)/\(hasB m b=false->m+b<=255/\gN m b=m+b/\gr m b=m/\1<=b):=by
 obtain ⟨k,hk⟩:=vo hb
 have:=EZ ⟨m.toNat,by omega⟩ k
 simp only [hk,show ((m.toNat:Nat):Int)=m from by omega,Bool.and_eq_true] at this
 have h2:=this.2
 constructor
 ·intro h
  rw [h] at h2
  simp only [cond_true,Bool.and_eq_true,decide_eq_true_eq,Bool.not_eq_true',beq_iff_eq] at h2
  exact ⟨⟨h2.1,h2.2.1⟩,h2.2.2.1,h2.2.2.2.1,h2.2.2.2.2⟩
 ·intro h
  rw [h] at h2
  simp only [cond_false,Bool.and_eq_true,decide_eq_true_eq,beq_iff_eq] at h2
  exact ⟨h2.1.1,h2.1.2.1,h2.1.2.2,h2.2⟩
theorem xg {s:Sc} {b:Int} (hm:0<=s.modes/\s.modes<=255) (hb:b∈dO) (on:Bool):db s.t b on=some (setM b on s).t:=by
 have hh:aW s.t b=some (hasB s.modes b):=kH hm hb
 obtain ⟨a1,a2⟩:=xA hm hb
 unfold db
 have b1:∀(h o:Bool),((bif h then bif !o then some true else some false else some false:Option Bool))=some (h && !o):=fun h o=>by cases h <;> cases o <;> rfl
 have b2:∀(h o:Bool),((bif !h then bif o then some true else some false else some false:Option Bool))=some (!h&&o):=fun h o=>by cases h <;> cases o <;> rfl
 cases hB:hasB s.modes b with
 | true=>
  obtain ⟨⟨q1,q2⟩,q3,q4,q5⟩:=a1 hB
  cases on with
  | false=>
   refine ab (x:=s.modes-b) (ab (x:=true) (ab hh (by rw [b1,hB];rfl)) (by show some (i64.wrap (s.modes-b))=_;rw [ag (by omega)])) ?_
   have h2:aW ({ s with modes:=s.modes-b }:Sc).t b=some (hasB (s.modes-b) b):=kH (x:=({ s with modes:=s.modes-b }:Sc).t) ⟨q1,q2⟩ hb
   refine ab (x:=s.modes-b) (ab (x:=false) (ab h2 (by rw [b2,q3];rfl)) rfl) ?_
   show some ({ s with modes:=s.modes-b }:Sc).t=_
   unfold setM
   simp only [cond_false,q4]
  | true=>
   refine ab (x:=s.modes) (ab (x:=false) (ab hh (by rw [b1,hB];rfl)) rfl) ?_
   refine ab (x:=s.modes) (ab (x:=false) (ab hh (by rw [b2,hB];rfl)) rfl) ?_
   show some s.t=_
   unfold setM
   simp only [cond_true,q5]
 | false=>
  obtain ⟨q1,q2,q3,q4⟩:=a2 hB
  cases on with
  | false=>
   refine ab (x:=s.modes) (ab (x:=false) (ab hh (by rw [b1,hB];rfl)) rfl) ?_
   refine ab (x:=s.modes) (ab (x:=false) (ab hh (by rw [b2,hB];rfl)) rfl) ?_
   show some s.t=_
   unfold setM
   simp only [cond_false,q3]
  | true=>
   refine ab (x:=s.modes) (ab (x:=false) (ab hh (by rw [b1,hB];rfl)) rfl) ?_
   refine ab (x:=s.modes+b) (ab (x:=true) (ab hh (by rw [b2,hB];rfl)) (by show some (i64.wrap (s.modes+b))=_;rw [ag (by omega)])) ?_
   show some ({ s with modes:=s.modes+b }:Sc).t=_
   unfold setM
   simp only [cond_true,q2]
theorem sM {s:Sc} {R C:Nat} (h:PreS s R C) {r:Int} (hr:-1000000<=r/\r<=1000000) (c:Int):dX s.t r c=some ({ s with row:=(iB r c s.rows s.cols s.top s.bottom s.modes).1,col:=(iB r c s.rows s.cols s.top s.bottom s.modes).2,late:=false }:Sc).t:=by
 have hs:=h.e.sz
 unfold szR at hs
 have hR:=h.hr;have hC:=h.hc
 have h1:=h.e.etop;have h2:=h.e.etb;have h3:=h.e.ebot
 unfold dX
 refine ab (x:=(iB r c s.rows s.cols s.top s.bottom s.modes).1) ?_ ?_
 ·refine ab (x:=oF s.modes) ?_ ?_
  ·refine ab (kH (x:=s.t) h.md (b:=2) (by simp [dO])) ?_
   exact bt _
  ·unfold iB
   simp only
   cases oF s.modes with
   | true=>
    refine ab (x:=betw (s.top+r) s.top s.bottom) ?_ rfl
    show ah (i64.wrap (s.top+r)) s.top s.bottom=_
    rw [ag (by omega),cO h2]
   | false=>
    refine ab (x:=betw r 0 (s.rows-1)) ?_ rfl
    show ah r 0 (i64.wrap (s.rows-1))=_
    rw [ag (by omega),cO (by omega)]
 ·refine ab (x:=betw c 0 (s.cols-1)) ?_ rfl
  show ah c 0 (i64.wrap (s.cols-1))=_
  rw [ag (by omega),cO (by omega)]
def zF (s:Sc):Sc:={ s with grid:=(mh s.rows s.row s.top s.bottom s.pen s.grid).1,row:=(mh s.rows s.row s.top s.bottom s.pen s.grid).2 }
theorem xi {s:Sc} {R C:Nat} (h:PreS s R C):fg s.t=some (zF s).t:=by
 have hs:=h.e.sz
 unfold szR at hs
 have hR:=h.hr
 have hrow:=h.row
 unfold fg zF mh
 refine ab (x:=if s.row=s.bottom then (scrM s.grid s.top s.bottom 1 s.pen,s.row) else (s.grid,if s.rows-1<s.row+1 then s.rows-1 else s.row+1)) ?_ rfl
 refine ab (bt _) ?_
 show (bif s.row==s.bottom then (cy s.grid s.top s.bottom 1 s.pen).bind fun x5=>some (x5,s.row) else (bif decide (s.row<i64.wrap (s.rows-1)) then some true else some false:Option Bool).bind fun x6=>bif x6 then some (s.grid,i64.wrap (s.row+1)) else some (s.grid,s.row):Option (aA×Int))=_
 rw [ag (x:=s.rows-1) (by omega),ag (x:=s.row+1) (by omega)]
 by_cases e:s.row=s.bottom
 ·have:(s.row==s.bottom)=true:=by simpa using e
  rw [this,if_pos e,jN h.g h.e.sz h.e.etop h.e.etb h.e.ebot (by omega)];rfl
 ·have:(s.row==s.bottom)=false:=by simpa using e
  rw [this,if_neg e]
  simp only [cond_false,bt,Option.bind_some]
  by_cases h2:s.row<s.rows-1
  ·rw [ao h2,if_neg (by omega)];rfl
  ·rw [au h2,if_pos (by omega)]
   simp only [cond_false]
   congr 2;omega
theorem oA {s:Sc} {R C:Nat} (h:PreS s R C) {l:List ak} (hl:aE l=true/\l.length=C):cj s.t l=some ({ s with grid:=setR s.grid s.row l }:Sc).t:=by
 unfold cj
 exact ab (Dr h.g h.e.sz h.row hl) rfl
theorem qh {s:Sc} {R C:Nat} (h:PreS s R C):getI s.grid s.row=some (rowG s.grid s.row):=by
 have h1:=(gY h.g h.row).1
 have hr:=h.row
 obtain ⟨r,he⟩:∃k:Nat,s.row=k:=⟨s.row.toNat,by omega⟩
 rw [he] at h1 ⊢
 rw [aP,<-h1,Int.toNat_natCast]
theorem Aw {s:Sc} {R C:Nat} (h:PreS s R C) {x:aA×Int×Int} (hx:inG R C x) (b:Bool):PreS { s with grid:=x.1,row:=x.2.1,col:=x.2.2,late:=b } R C:=⟨h.hr,h.hc,h.e,hx.1,hx.2.1,hx.2.2,h.md⟩
theorem FA {s:Sc} {R C:Nat} (h:PreS s R C) (c:Int):ij s.t c=some (rD c s).t:=by
 have hs:=h.e.sz
 unfold szR at hs
 have hR:=h.hr;have hC:=h.hc
 have hco:=n7 c
 have hrow:=h.row;have hcol:=h.col
 unfold ij
 refine ab (kU c) ?_
 refine ab (x:=decide (ae c<0)||decide (s.cols<ae c)) ?_ ?_
 ·show (bif decide (ae c<0) then some true else bif decide (s.cols<ae c) then some true else some false:Option Bool)=_
  cases decide (ae c<0) <;> cases decide (s.cols<ae c) <;> rfl
 unfold rD ko
 cases h1:(decide (ae c<0)||decide (s.cols<ae c)) with
 | true=>rfl
 | false=>
 simp only [Bool.or_eq_false_iff,decide_eq_false_iff_not] at h1
 simp only [cond_false]
 refine ab (bt _) ?_
 cases h2:(ae c==0) with
 | true=>
  simp only [cond_true]
  obtain ⟨k1,k2,k3⟩:=gY h.g h.row
  refine ab (bt _) ?_
  show (bif s.late then _ else _:Option ScrT)=_
  cases hl:s.late with
  | true=>
   simp only [cond_true]
   have hm:=uV (a:=s.col) (c:=c) k3
   refine ab (qh h) (ab (xk k3 s.col c) (ab (oA h ⟨hm.1,hm.2.trans k2⟩) ?_))
   show some ({ s with grid:=setR s.grid s.row (rb (rowG s.grid s.row) s.col c) }:Sc).t=_
   unfold Sc.t
   simp only [hl]
  | false=>
   simp only [cond_false]
   have hm:=uV (a:=s.col-1) (c:=c) k3
   refine ab (qh h) ?_
   have hw:i64.wrap (s.col-1)=s.col-1:=ag (by omega)
   show (ft (rowG s.grid s.row) (i64.wrap (s.col-1)) c).bind _=_
   rw [hw]
   refine ab (xk k3 (s.col-1) c) (ab (oA h ⟨hm.1,hm.2.trans k2⟩) ?_)
   show some ({ s with grid:=setR s.grid s.row (rb (rowG s.grid s.row) (s.col-1) c) }:Sc).t=_
   unfold Sc.t
   simp only [hl]
 | false=>
 have h2':ae c≠0:=by simpa using h2
 have hn:1<=ae c/\ae c<=(C:Int):=by omega
 simp only [cond_false]
 refine ab (kH (x:=s.t) h.md (b:=1) (by simp [dO])) ?_
 have hx0:inG R C (s.grid,s.row,s.col):=⟨h.g,h.row,h.col⟩
 have hx:=oI h.e hx0 (s.late&&gw s.modes)
 rw [<-hR] at hx
 obtain ⟨x,hxe⟩:∃x,mw (s.late&&gw s.modes) s.rows s.top s.bottom s.pen (s.grid,s.row,s.col)=x:=⟨_,rfl⟩
 rw [hxe] at hx
 refine ab (x:=({ s with grid:=x.1,row:=x.2.1,col:=x.2.2,late:=false }:Sc).w) ?_ ?_
 ·refine ab (bt _) ?_
  show (bif s.late then _ else _:Option _)=_
  cases hl:s.late with
  | true=>
   simp only [cond_true]
   refine ab (bt _) ?_
   show (bif gw s.modes then _ else _:Option _)=_
   cases hw:gw s.modes with
   | true=>
    simp only [cond_true]
    have hp:PreS { s with col:=0,late:=false } R C:=⟨h.hr,h.hc,h.e,h.g,h.row,by simp only;omega,h.md⟩
    refine ab (xi hp) ?_
    rw [hl,hw] at hxe
    rw [<-hxe]
    rfl
   | false=>
    rw [hl,hw] at hxe
    rw [<-hxe]
    rfl
  | false=>
   rw [hl] at hxe
   rw [<-hxe]
   show some s.w=_
   unfold Sc.w
   simp only [hl]
   rfl
 have hp1:=Aw h hx false
 obtain ⟨hy,hy2⟩:=uG h.e hx (gw s.modes) hn
 rw [<-hR,<-hC] at hy hy2
 obtain ⟨y,hye⟩:∃y,oD s.rows s.cols s.top s.bottom (gw s.modes) s.pen (ae c) x=y:=⟨_,rfl⟩
 rw [hye] at hy hy2
 have hxc:=hx.2.2
 refine ab (x:=({ s with grid:=y.1,row:=y.2.1,col:=y.2.2,late:=false }:Sc).w) ?_ ?_
 ·refine ab (x:=decide (s.cols-ae c<x.2.2)) ?_ ?_
  ·show (bif decide (i64.wrap (x.2.2+ae c)>s.cols) then some true else some false:Option Bool)=_
   rw [ag (by omega),bt]
   congr 1
   rw [Bool.eq_iff_iff];simp;omega
  ·unfold oD at hye
   cases hd:decide (s.cols-ae c<x.2.2) with
   | true=>
    rw [hd] at hye
    simp only [cond_true] at hye ⊢
    refine ab (bt _) ?_
    show (bif gw s.modes then _ else _:Option _)=_
    cases hw:gw s.modes with
    | true=>
     rw [hw] at hye
     simp only [cond_true] at hye ⊢
     have hp:PreS { s with grid:=x.1,row:=x.2.1,col:=0,late:=false } R C:=⟨h.hr,h.hc,h.e,hx.1,hx.2.1,by simp only;omega,h.md⟩
     refine ab (xi hp) ?_
     rw [<-hye]
     rfl
    | false=>
     rw [hw] at hye
     simp only [cond_false] at hye ⊢
     rw [<-hye]
     show some ({ s with grid:=x.1,row:=x.2.1,col:=i64.wrap (s.cols-ae c),late:=false }:Sc).w=_
     rw [ag (by omega)]
   | false=>
    rw [hd] at hye
    simp only [cond_false] at hye ⊢
    rw [<-hye]
 have hp2:=Aw h hy false
 obtain ⟨j1,j2,j3⟩:=gY hy.1 hy.2.1
 have hget:=qh hp2
 have hins:=jv (a:=y.2.2) (n:=ae c) j3 h.e.epen
 have hl2:aE (bif insB s.modes then gq (rowG y.1 y.2.1) y.2.2 (ae c) s.pen else rowG y.1 y.2.1)=true/\(bif insB s.modes then gq (rowG y.1 y.2.1) y.2.2 (ae c) s.pen else rowG y.1 y.2.1).length=C:=by
  cases insB s.modes with
  | true=>exact ⟨hins.1,hins.2.trans j2⟩
  | false=>exact ⟨j3,j2⟩
 refine ab (x:=({ s with grid:=bif insB s.modes then setR y.1 y.2.1 (gq (rowG y.1 y.2.1) y.2.2 (ae c) s.pen) else y.1,row:=y.2.1,col:=y.2.2,late:=false }:Sc).w) ?_ ?_
 ·refine ab (x:=insB s.modes) ?_ ?_
  ·refine ab (kH (x:=({ s with grid:=y.1,row:=y.2.1,col:=y.2.2,late:=false }:Sc).t) h.md (b:=4) (by simp [dO])) (bt _)
  ·cases insB s.modes with
   | true=>exact ab hget (ab (sQ j3 s.pen) (ab (oA hp2 ⟨hins.1,hins.2.trans j2⟩) rfl))
   | false=>rfl
 have hg3:gok (bif insB s.modes then setR y.1 y.2.1 (gq (rowG y.1 y.2.1) y.2.2 (ae c) s.pen) else y.1) R C:=by
  cases insB s.modes with
  | true=>exact nm hy.1 ⟨hins.1,hins.2.trans j2⟩
  | false=>exact hy.1
 have hp3:=Aw h (x:=((bif insB s.modes then setR y.1 y.2.1 (gq (rowG y.1 y.2.1) y.2.2 (ae c) s.pen) else y.1),y.2.1,y.2.2)) ⟨hg3,hy.2⟩ false
 have hget3:getI (bif insB s.modes then setR y.1 y.2.1 (gq (rowG y.1 y.2.1) y.2.2 (ae c) s.pen) else y.1) y.2.1=some (bif insB s.modes then gq (rowG y.1 y.2.1) y.2.2 (ae c) s.pen else rowG y.1 y.2.1):=by
  cases insB s.modes with
  | true=>
   have hyr:=hy.2.1
   have hlen:y.1.length=R:=hy.1.1
   simp only [cond_true]
   rw [show y.2.1=((y.2.1.toNat:Nat):Int) from by omega,aP]
   unfold setR
   rw [Int.toNat_natCast,List.getElem?_set_self (by omega)]
  | false=>exact hget
 have hset:setR (bif insB s.modes then setR y.1 y.2.1 (gq (rowG y.1 y.2.1) y.2.2 (ae c) s.pen) else y.1) y.2.1 (putM (bif insB s.modes then gq (rowG y.1 y.2.1) y.2.2 (ae c) s.pen else rowG y.1 y.2.1) y.2.2 c s.pen)=setR y.1 y.2.1 (putM (bif insB s.modes then gq (rowG y.1 y.2.1) y.2.2 (ae c) s.pen else rowG y.1 y.2.1) y.2.2 c s.pen):=by
  cases insB s.modes with
  | true=>unfold setR;simp only [cond_true];rw [List.set_set]
  | false=>rfl
 have hput:=Ce (a:=y.2.2) (c:=c) hl2.1 h.e.epen
 have hyc:=hy.2.2
 have hrow4:cj ({ s with grid:=bif insB s.modes then setR y.1 y.2.1 (gq (rowG y.1 y.2.1) y.2.2 (ae c) s.pen) else y.1,row:=y.2.1,col:=y.2.2,late:=false }:Sc).t (putM (bif insB s.modes then gq (rowG y.1 y.2.1) y.2.2 (ae c) s.pen else rowG y.1 y.2.1) y.2.2 c s.pen) =
   some ({ s with grid:=setR y.1 y.2.1 (putM (bif insB s.modes then gq (rowG y.1 y.2.1) y.2.2 (ae c) s.pen else rowG y.1 y.2.1) y.2.2 c s.pen),row:=y.2.1,col:=y.2.2,late:=false }:Sc).t:=by
  have:=oA hp3 (l:=putM (bif insB s.modes then gq (rowG y.1 y.2.1) y.2.2 (ae c) s.pen else rowG y.1 y.2.1) y.2.2 c s.pen) ⟨hput.1,hput.2.trans hl2.2⟩
  simp only [hset] at this
  exact this
 refine ab hget3 (ab (FB hl2.1 (a:=y.2.2) (by omega) c s.pen) (ab hrow4 ?_))
 rw [hxe,hye]
 unfold sH
 refine ab (bt _) ?_
 show (bif decide (i64.wrap (y.2.2+ae c)<s.cols) then some ({ s with grid:=setR y.1 y.2.1 (putM (bif insB s.modes then gq (rowG y.1 y.2.1) y.2.2 (ae c) s.pen else rowG y.1 y.2.1) y.2.2 c s.pen),row:=y.2.1,col:=i64.wrap (y.2.2+ae c),late:=false }:Sc).t else some ({ s with grid:=setR y.1 y.2.1 (putM (bif insB s.modes then gq (rowG y.1 y.2.1) y.2.2 (ae c) s.pen else rowG y.1 y.2.1) y.2.2 c s.pen),row:=y.2.1,col:=i64.wrap (s.cols-1),late:=gw s.modes }:Sc).t:Option ScrT)=_
 rw [ag (x:=y.2.2+ae c) (by omega),ag (x:=s.cols-1) (by omega)]
 by_cases hfin:y.2.2+ae c<s.cols
 ·rw [ao hfin,au (by omega:¬s.cols<=y.2.2+ae c)];rfl
 ·rw [au hfin,ao (by omega:s.cols<=y.2.2+ae c)];rfl
end Go.SH
namespace Go.SH
open IntKind (i64 u64 i32 u8)
theorem B6 {s:Sc} (hm:0<=s.modes/\s.modes<=255):gA s.t=some (bif aU s.modes then 1 else 0):=by
 unfold gA
 refine ab (ab (kH (x:=s.t) hm (b:=128) (by simp [dO])) (bt _)) ?_
 show (bif aU s.modes then some 1 else some 0:Option Int)=_
 cases aU s.modes <;> rfl
theorem B5 {s:Sc} (hm:0<=s.modes/\s.modes<=255):gz s.t=some (bG s).t:=by
 unfold gz bG
 have h1:=B6 hm
 have h2:aW s.t 2=some (oF s.modes):=kH (x:=s.t) hm (b:=2) (by simp [dO])
 cases ho:aU s.modes with
 | true=>
  rw [ho] at h1
  refine ab (x:=({ s with sv1:=rt s }:Sc).sv) (ab h1 (ab h2 rfl)) rfl
 | false=>
  rw [ho] at h1
  refine ab (x:=({ s with sv0:=rt s }:Sc).sv) (ab h1 (ab h2 rfl)) rfl
theorem vD {s:Sc} {R C:Nat} (h:PreS s R C):eH s.t=some (cN s).t:=by
 have hs:=h.e.sz
 unfold szR at hs
 have hR:=h.hr;have hC:=h.hc
 have h1:=B6 h.md
 unfold eH
 refine ab (x:=((cv s).1,(cv s).2.1,(cv s).2.2.1.1,(cv s).2.2.1.2.1,(cv s).2.2.1.2.2,(cv s).2.2.2.1,(cv s).2.2.2.2)) ?_ ?_
 ·refine ab h1 ?_
  unfold cv
  cases aU s.modes <;> rfl
 refine ab (x:=betw (cv s).1 0 (s.rows-1)) ?_ ?_
 ·show ah (cv s).1 0 (i64.wrap (s.rows-1))=_
  rw [ag (by omega),cO (by omega)]
 refine ab (x:=betw (cv s).2.1 0 (s.cols-1)) ?_ ?_
 ·show ah (cv s).2.1 0 (i64.wrap (s.cols-1))=_
  rw [ag (by omega),cO (by omega)]
 refine ab (xg (s:={ s with row:=betw (cv s).1 0 (s.rows-1),col:=betw (cv s).2.1 0 (s.cols-1),pen:=(cv s).2.2.1 }) h.md (b:=2) (by simp [dO]) (cv s).2.2.2.1) ?_
 refine ab (x:=bif (cv s).2.2.2.2 then betw (cv s).2.1 0 (s.cols-1)==s.cols-1 else false) ?_ rfl
 show (bif (cv s).2.2.2.2 then some (betw (cv s).2.1 0 (s.cols-1)==i64.wrap (s.cols-1)) else some false:Option Bool)=_
 rw [ag (by omega),CS]
theorem G1:∀k:_root_.Fin 8,(i64.wrap ((1:Int)*2^(min (u64.wrap (k.val:Int)).toNat 64))==dO[k.val]?.getD 0)=true:=by decide +kernel
theorem sJ {b:Int}:∀(m k:Nat) (acc:Bool),k+m=8->ap (bK b) (acc,(k:Int))=some (acc||(dO.drop k).contains b)
 | 0,k,acc,h=>by
  obtain rfl:k=8:=by omega
  rw [aj]
  have:bK b (acc,((8:Nat):Int))=some (.inl acc):=rfl
  rw [this]
  simp [dO]
 | m+1,k,acc,h=>by
  have hp:=G1 ⟨k,by omega⟩
  simp only [beq_iff_eq] at hp
  have hlen:k<dO.length:=by show k<8;omega
  have hb:dO[k]?.getD 0=dO[k]:=by rw [List.getElem?_eq_getElem hlen];rfl
  rw [hb] at hp
  have hs:bK b (acc,(k:Int))=some (.inr (acc||(b==dO[k]),((k+1:Nat):Int))):=by
   unfold bK
   have hu:0<=u64.wrap (k:Int):=by rw [wL];omega
   simp only [bt]
   rw [ao (by omega:(k:Int)<8)]
   simp only [Option.bind_some,cond_true]
   rw [ac hu,hp,ag (by omega)]
   simp only [Option.bind_some]
   cases (b==dO[k]) <;> cases acc <;> rfl
  rw [aj,hs]
  have:=sJ (b:=b) m (k+1) (acc||(b==dO[k])) (by omega)
  refine Eq.trans this ?_
  rw [List.drop_eq_getElem_cons hlen,List.contains_cons,Bool.or_assoc]
theorem KW:∀b∈dO,mj b=false:=by decide +kernel
theorem KX (b:Int):mj b = !dO.contains b:=by
 cases h:mj b with
 | false=>
  have:=AP h
  rw [List.contains_iff_mem.2 this];rfl
 | true=>
  cases h2:dO.contains b with
  | false=>rfl
  | true=>
   have:=KW b (List.contains_iff_mem.1 h2)
   rw [h] at this;simp at this
theorem B4 {s:Sc} {R C:Nat} (h:OkS s R C) (b:Int) (on:Bool):gl s.t b on=some (mz b on s).t:=by
 have hs:=h.sz
 unfold szR at hs
 have hR:=h.hr;have hC:=h.hc
 have hlo:ap (bK b) (false,0)=some (dO.contains b):=by
  have:=sJ (b:=b) 8 0 false (by omega)
  simpa using this
 unfold gl mz
 rw [KX]
 refine ab hlo (ab (bt _) ?_)
 cases hc:dO.contains b with
 | false=>rfl
 | true=>
  have hb:=List.contains_iff_mem.1 hc
  simp only [Bool.not_true,cond_false]
  have hmo:=xg h.md hb on
  refine ab (bt _) ?_
  cases h2:(b==2) with
  | true=>
   have e2:=beqf h2
   simp only [cond_true]
   have k:=oo h hb on
   rw [wV (by rw [e2];rfl)] at k ⊢
   exact ab hmo (ab (sM k.pre (by omega) 0) rfl)
  | false=>
   simp only [cond_false]
   refine ab (bt _) ?_
   cases h128:(b==128) with
   | false=>
    have:(b !=128)=true:=by simp [bne,h128]
    rw [this,wV h128]
    exact ab hmo rfl
   | true=>
    have e:=beqf h128
    subst e
    have:((128:Int) !=128)=false:=rfl
    rw [this]
    simp only [cond_false,cond_true]
    obtain ⟨a1,a2⟩:=xA h.md hb
    have hh:aW s.t 128=some (aU s.modes):=kH (x:=s.t) h.md hb
    refine ab (x:=(aU s.modes==on)) (ab hh (bt _)) ?_
    rw [wasB]
    have hhas:hasB s.modes 128=aU s.modes:=rfl
    cases ho:aU s.modes with
    | true=>
     obtain ⟨_,_,q4,q5⟩:=a1 (hhas.trans ho)
     cases on with
     | true=>
      have hsw:bj 128 true s=s:=by unfold bj;rw [wasB,ho];rfl
      rw [hsw]
      show some ({ s with late:=false }:Sc).t=some ({ setM 128 true s with late:=false }:Sc).t
      unfold setM
      simp only [cond_true,q5]
     | false=>
      have hsw:bj 128 false s={ s with grid:=s.main,main:=[] }:=by unfold bj;rw [wasB,ho];rfl
      have k:=oo h hb false
      rw [hsw] at k ⊢
      have hr:=vD k.pre
      refine ab hmo ?_
      exact ab hr rfl
    | false=>
     obtain ⟨_,q4,q5,_⟩:=a2 (hhas.trans ho)
     cases on with
     | false=>
      have hsw:bj 128 false s=s:=by unfold bj;rw [wasB,ho];rfl
      rw [hsw]
      show some ({ s with late:=false }:Sc).t=some ({ setM 128 false s with late:=false }:Sc).t
      unfold setM
      simp only [cond_false,q5]
     | true=>
      have hsw:bj 128 true s={ bG s with main:=s.grid,grid:=dE s.rows.toNat s.cols.toNat (0,0,0) }:=by unfold bj;rw [wasB,ho];rfl
      rw [hsw]
      have e1:bG s={ s with sv0:=rt s }:=by unfold bG;rw [ho];rfl
      have hsv:=B5 h.md
      have hmo2:=xg (s:=bG s) (by rw [e1];exact h.md) hb true
      have hbl:ex s.rows s.cols (0,0,0)=some (dE s.rows.toNat s.cols.toNat (0,0,0)):=by
       rw [hR,hC];exact sR (by omega) (by omega) _
      rw [e1] at hsv hmo2 ⊢
      exact ab hsv (ab hmo2 (ab hbl rfl))
def upS (row bottom R k:Int):Int:=if row<=bottom then (if bottom<row+k then bottom else row+k) else (if R-1<row+k then R-1 else row+k)
def dnS (row top k:Int):Int:=if top<=row then (if top>row-k then top else row-k) else (if 0>row-k then 0 else row-k)
theorem sx (row bottom R k:Int):(row<=bottom->bottom<row+k->upS row bottom R k=bottom)/\(row<=bottom->row+k<=bottom->upS row bottom R k=row+k)/\(bottom<row->R-1<row+k->upS row bottom R k=R-1)/\(bottom<row->row+k<=R-1->upS row bottom R k=row+k):=by
 unfold upS
 refine ⟨fun a b=>?_,fun a b=>?_,fun a b=>?_,fun a b=>?_⟩
 ·rw [if_pos a,if_pos b]
 ·rw [if_pos a,if_neg (by omega)]
 ·rw [if_neg (by omega),if_pos b]
 ·rw [if_neg (by omega),if_neg (by omega)]
theorem tZ (row top k:Int):(top<=row->row-k<top->dnS row top k=top)/\(top<=row->top<=row-k->dnS row top k=row-k)/\(row<top->row-k<0->dnS row top k=0)/\(row<top->0<=row-k->dnS row top k=row-k):=by
 unfold dnS
 refine ⟨fun a b=>?_,fun a b=>?_,fun a b=>?_,fun a b=>?_⟩
 ·rw [if_pos a,if_pos (by omega)]
 ·rw [if_pos a,if_neg (by omega)]
 ·rw [if_neg (by omega),if_pos (by omega)]
 ·rw [if_neg (by omega),if_neg (by omega)]
theorem Fw (n m R C row col top bottom:Int):(lu n m R C row col top bottom).1=if 0<n then upS row bottom R n else if n<0 then dnS row top (-n) else row:=by
 unfold lu upS dnS
 simp only [Int.sub_neg]
 by_cases c1:0<n
 ·rw [if_pos c1,if_pos c1]
  by_cases c2:row<=bottom
  ·simp only [if_pos c2]
  ·simp only [if_neg c2]
 ·rw [if_neg c1,if_neg c1]
  by_cases c2:n<0
  ·rw [if_pos c2,if_pos c2]
   by_cases c3:top<=row
   ·simp only [if_pos c3]
   ·simp only [if_neg c3]
  ·rw [if_neg c2,if_neg c2]
def up1 (row bottom R:Int):Int:=if row≠bottom/\row<R-1 then row+1 else row
def dn1 (row top:Int):Int:=if row≠top/\row>0 then row-1 else row
theorem Gw (row bottom R:Int):(row≠bottom->row<R-1->up1 row bottom R=row+1)/\((row=bottom\/R-1<=row)->up1 row bottom R=row):=by
 unfold up1
 exact ⟨fun a b=>if_pos ⟨a,b⟩,fun a=>if_neg (by omega)⟩
theorem HI (row top:Int):(row≠top->row>0->dn1 row top=row-1)/\((row=top\/row<=0)->dn1 row top=row):=by
 unfold dn1
 exact ⟨fun a b=>if_pos ⟨a,b⟩,fun a=>if_neg (by omega)⟩
theorem wY {s:Sc} {R C:Nat} (h:PreS s R C) {n:Int} (hn:n<=1000000):∀(k:Nat) (i row:Int),n-i<=k->(k:Int)<=n-i\/k=0->0<=i->0<=row/\row<R ->
  ap (cC n s.t) (i,row)=some (upS row s.bottom R k)
 | 0,i,row,h1,h2,hi,hr=>by
  rw [aj]
  have:cC n s.t (i,row)=some (.inl row):=by
   unfold cC
   rw [au (by omega:¬i<n)];rfl
  rw [this]
  have h5:=sx row s.bottom R ((0:Nat):Int)
  show some row=some (upS row s.bottom R ((0:Nat):Int))
  have:upS row s.bottom R ((0:Nat):Int)=row:=by omega
  rw [this]
 | k+1,i,row,h1,h2,hi,hr=>by
  have hs:=h.e.sz
  unfold szR at hs
  have hR:=h.hr
  have hb:=h.e.ebot
  have hu:=Gw row s.bottom R
  rw [aj]
  have:cC n s.t (i,row)=some (.inr (i+1,up1 row s.bottom R)):=by
   unfold cC
   refine ab (bt _) ?_
   rw [ao (by omega:i<n)]
   simp only [cond_true]
   refine ab (x:=up1 row s.bottom R) ?_ ?_
   ·refine ab (x:=(row !=s.bottom)&&decide (row<(R:Int)-1)) ?_ ?_
    ·show (bif row !=s.bottom then bif decide (row<i64.wrap (s.rows-1)) then some true else some false else some false:Option Bool)=_
     rw [ag (by omega),hR]
     cases (row !=s.bottom) <;> cases decide (row<(R:Int)-1) <;> rfl
    ·unfold up1
     by_cases e:row≠s.bottom/\row<(R:Int)-1
     ·have:((row !=s.bottom)&&decide (row<(R:Int)-1))=true:=by simp [e.1,e.2]
      rw [this,if_pos e]
      show some (i64.wrap (row+1))=_
      rw [ag (by omega)]
     ·have:((row !=s.bottom)&&decide (row<(R:Int)-1))=false:=by
       rw [Bool.eq_false_iff]
       simp only [ne_eq,Bool.and_eq_true,bne_iff_ne,decide_eq_true_eq]
       exact e
      rw [this,if_neg e];rfl
   ·rw [ag (by omega)]
  rw [this]
  have hr':0<=up1 row s.bottom R/\up1 row s.bottom R<R:=by omega
  have ih:=wY h hn k (i+1) (up1 row s.bottom R) (by omega) (by omega) (by omega) hr'
  refine Eq.trans ih ?_
  congr 1
  have q1:=sx (up1 row s.bottom R) s.bottom R (k:Int)
  have q2:=sx row s.bottom R ((k+1:Nat):Int)
  generalize up1 row s.bottom R=z at *
  generalize upS z s.bottom R (k:Int)=v at *
  generalize upS row s.bottom R ((k+1:Nat):Int)=v' at *
  omega
theorem wX {s:Sc} {R C:Nat} (h:PreS s R C) {n:Int} (hn:-1000000<=n):∀(k:Nat) (i row:Int),i-n<=k->(k:Int)<=i-n\/k=0->i<=0->0<=row/\row<R ->
  ap (cB n s.t) (i,row)=some (dnS row s.top k)
 | 0,i,row,h1,h2,hi,hr=>by
  rw [aj]
  have:cB n s.t (i,row)=some (.inl row):=by
   unfold cB
   rw [au (by omega:¬i>n)];rfl
  rw [this]
  have h5:=tZ row s.top ((0:Nat):Int)
  show some row=some (dnS row s.top ((0:Nat):Int))
  have:dnS row s.top ((0:Nat):Int)=row:=by omega
  rw [this]
 | k+1,i,row,h1,h2,hi,hr=>by
  have hs:=h.e.sz
  unfold szR at hs
  have hR:=h.hr
  have ht:=h.e.etop
  have hu:=HI row s.top
  rw [aj]
  have:cB n s.t (i,row)=some (.inr (i-1,dn1 row s.top)):=by
   unfold cB
   refine ab (bt _) ?_
   rw [ao (by omega:i>n)]
   simp only [cond_true]
   refine ab (x:=dn1 row s.top) ?_ ?_
   ·refine ab (x:=(row !=s.top)&&decide (row>0)) ?_ ?_
    ·show (bif row !=s.top then bif decide (row>0) then some true else some false else some false:Option Bool)=_
     cases (row !=s.top) <;> cases decide (row>0) <;> rfl
    ·unfold dn1
     by_cases e:row≠s.top/\row>0
     ·have:((row !=s.top)&&decide (row>0))=true:=by simp [e.1,e.2]
      rw [this,if_pos e]
      show some (i64.wrap (row-1))=_
      rw [ag (by omega)]
     ·have:((row !=s.top)&&decide (row>0))=false:=by
       rw [Bool.eq_false_iff]
       simp only [ne_eq,Bool.and_eq_true,bne_iff_ne,decide_eq_true_eq]
       exact e
      rw [this,if_neg e];rfl
   ·rw [ag (by omega)]
  rw [this]
  have hr':0<=dn1 row s.top/\dn1 row s.top<R:=by omega
  have ih:=wX h hn k (i-1) (dn1 row s.top) (by omega) (by omega) (by omega) hr'
  refine Eq.trans ih ?_
  congr 1
  have q1:=tZ (dn1 row s.top) s.top (k:Int)
  have q2:=tZ row s.top ((k+1:Nat):Int)
  generalize dn1 row s.top=z at *
  generalize dnS z s.top (k:Int)=v at *
  generalize dnS row s.top ((k+1:Nat):Int)=v' at *
  omega
theorem Dp {s:Sc} {R C:Nat} (h:PreS s R C) {n m:Int} (hn:-1000000<=n/\n<=1000000) (hm:-1000000<=m/\m<=1000000):jd s.t n m=some ({ s with row:=(lu n m s.rows s.cols s.row s.col s.top s.bottom).1,col:=(lu n m s.rows s.cols s.row s.col s.top s.bottom).2 }:Sc).t:=by
 have hs:=h.e.sz
 unfold szR at hs
 have hR:=h.hr;have hC:=h.hc
 have hrow:=h.row;have hcol:=h.col
 have h1:=h.e.etop;have h2:=h.e.etb;have h3:=h.e.ebot
 unfold jd
 have l1:=wY h hn.2 n.toNat 0 s.row (by omega) (by omega) (by omega) hrow
 have hu:=sx s.row s.bottom R (n.toNat:Int)
 have hr1:0<=upS s.row s.bottom R (n.toNat:Int)/\upS s.row s.bottom R (n.toNat:Int)<R:=by omega
 refine ab l1 ?_
 have l2:=wX h hn.1 (-n).toNat 0 _ (by omega) (by omega) (by omega) hr1
 refine ab l2 ?_
 refine ab (x:=betw (s.col+m) 0 (s.cols-1)) ?_ ?_
 ·show ah (i64.wrap (s.col+m)) 0 (i64.wrap (s.cols-1))=_
  rw [ag (by omega),ag (by omega),cO (by omega)]
 ·have hrowv:(lu n m s.rows s.cols s.row s.col s.top s.bottom).1=dnS (upS s.row s.bottom R (n.toNat:Int)) s.top ((-n).toNat:Int):=by
   rw [Fw,hR]
   have d1:=tZ (upS s.row s.bottom R (n.toNat:Int)) s.top ((-n).toNat:Int)
   by_cases c1:0<n
   ·rw [if_pos c1]
    have e1:(n.toNat:Int)=n:=by omega
    rw [e1] at d1 hr1 hu ⊢
    generalize upS s.row s.bottom R n=v at *
    generalize dnS v s.top ((-n).toNat:Int)=v' at *
    omega
   ·rw [if_neg c1]
    have e0:upS s.row s.bottom R (n.toNat:Int)=s.row:=by omega
    rw [e0] at d1 ⊢
    by_cases c2:n<0
    ·rw [if_pos c2,show ((-n).toNat:Int) = -n from by omega]
    ·rw [if_neg c2];omega
  have hcolv:(lu n m s.rows s.cols s.row s.col s.top s.bottom).2=betw (s.col+m) 0 (s.cols-1):=rfl
  rw [hrowv,hcolv]
  rfl
end Go.SH
namespace Go.SH
open IntKind (i64 u64 i32 u8)
theorem zm {s:Sc} {R C:Nat} (h:PreS s R C) (w:Int) (f l:Int×Int):dx s.t w f l=some ({ s with grid:=oR w f (s.row,s.col) l s.pen s.grid }:Sc).t:=by
 have key:∀a b:Int×Int,dB s.grid a b s.pen=some (j4 s.grid a b s.pen):=fun a b=>At h.g h.e.sz
 unfold dx oR
 refine ab (x:=bif w==0 then j4 s.grid (s.row,s.col) l s.pen else bif w==1 then j4 s.grid f (s.row,s.col) s.pen else bif w==2 then j4 s.grid f l s.pen else s.grid) ?_ rfl
 refine ab (bt _) ?_
 cases w==0 with
 | true=>exact ab (key _ _) rfl
 | false=>
  refine ab (bt _) ?_
  cases w==1 with
  | true=>exact ab (key _ _) rfl
  | false=>
   refine ab (bt _) ?_
   cases w==2 with
   | true=>exact ab (key _ _) rfl
   | false=>rfl
theorem Iw {from' to:Int} (h:to<=from') (t:TabT):widF from' to 199 t=t:=uy from' to 199 t (by omega) (fun c h1 h2=>by
 unfold widB
 by_cases a:(c:Int)>=from'
 ·rw [au (by omega:¬(c:Int)<to)];simp
 ·rw [au a];rfl)
theorem Dq {s:Sc} {R C:Nat} (h:OkS s R C) (hl:s.late=false) (n m:Int):gR s.t n m=some (aL (betw n 1 200) (betw m 1 200) s).t:=by
 have hs:=h.sz
 unfold szR at hs
 have hR:=h.hr;have hC:=h.hc
 have hrow:=h.row;have hcol:=h.col
 have b1:=eQ (n:=n) (lo:=1) (hi:=200) (by omega)
 have b2:=eQ (n:=m) (lo:=1) (hi:=200) (by omega)
 obtain ⟨R',hR'⟩:∃k:Nat,betw n 1 200=k:=⟨(betw n 1 200).toNat,by omega⟩
 obtain ⟨C',hC'⟩:∃k:Nat,betw m 1 200=k:=⟨(betw m 1 200).toNat,by omega⟩
 have hsz':szR R' C':=⟨by omega,by omega,by omega,by omega⟩
 have hsp:0<=s.sv0.1/\s.sv0.1<200:=by
  have:=h.s0
  simp only [dT,Bool.and_eq_true,decide_eq_true_eq] at this
  exact this.1
 unfold gR
 refine ab (cO (n:=n) (by omega)) (ab (cO (n:=m) (by omega)) ?_)
 rw [hR',hC']
 have hp0:∀z:Int,z<=200->betw z 0 200=pos0 z:=fun z hz=>by
  rw [ug (by omega)]
  unfold pos0
  split <;> split <;> omega
 obtain ⟨gone,hgone⟩:∃k:Nat,pos0 (s.row+1-R')=k:=⟨(pos0 (s.row+1-R')).toNat,by unfold pos0;split <;> omega⟩
 have hgle:gone<=R:=by unfold pos0 at hgone;split at hgone <;> omega
 refine ab (x:=(gone:Int)) ?_ ?_
 ·show ah (i64.wrap (i64.wrap (s.row+1)-(R':Int))) 0 200=_
  rw [ag (x:=s.row+1) (by omega),ag (by omega),cO (by omega),hp0 _ (by omega),hgone]
 have hrS:betw s.sv0.1 0 (s.rows-1)=(if s.rows-1<s.sv0.1 then s.rows-1 else s.sv0.1):=by
  rw [ug (by omega)]
  split <;> split <;> (try split) <;> omega
 have hmin:∃k:Int,(if s.rows-1<s.sv0.1 then s.rows-1 else s.sv0.1)=k/\0<=k/\k<200/\k<R:=⟨_,rfl,by split <;> omega,by split <;> omega,by split <;> omega⟩
 obtain ⟨k,hk,hk1,hk2,hk3⟩:=hmin
 obtain ⟨gm,hgm⟩:∃j:Nat,pos0 (k+1-R')=j:=⟨(pos0 (k+1-R')).toNat,by unfold pos0;split <;> omega⟩
 have hgmle:gm<=R:=by unfold pos0 at hgm;split at hgm <;> omega
 refine ab (x:=(aL R' C' s).main) ?_ ?_
 ·refine ab (x:=aU s.modes) (ab (kH (x:=s.t) h.md (b:=128) (by simp [dO])) (bt _)) ?_
  unfold aL
  simp only [hk,hgm,Int.toNat_natCast]
  rcases h.m with ⟨m1,m2⟩ | ⟨m1,m2⟩
  ·rw [m1,ao (by rw [m2.1];omega:(s.main.length:Int)>0)]
   simp only [cond_true]
   refine ab (x:=k) ?_ (ab (x:=(gm:Int)) ?_ (ab (xm m2 h.sz hsz' hgmle) rfl))
   ·show ah s.sv0.1 0 (i64.wrap (s.rows-1))=_
    rw [ag (by omega),cO (by omega),hrS,hk]
   ·show ah (i64.wrap (i64.wrap (k+1)-(R':Int))) 0 200=_
    rw [ag (x:=k+1) (by omega),ag (by omega),cO (by omega),hp0 _ (by omega),hgm]
  ·rw [m1,m2]
   show some s.main=_
   rw [m2];rfl
 refine ab (xm h.g h.sz hsz' hgle) ?_
 refine ab (vE h.tabs s.cols (C':Int)) ?_
 refine ab (x:=if (C':Int)-1<s.col then (C':Int)-1 else s.col) ?_ ?_
 ·show ah s.col 0 (i64.wrap ((C':Int)-1))=_
  rw [ag (by omega),cO (by omega),ug (by omega)]
  congr 1
  split <;> split <;> (try split) <;> omega
 ·have ht:(aL R' C' s).tabs=widF s.cols (C':Int) 199 s.tabs:=by
   unfold aL
   simp only
   by_cases hc:(C':Int)>s.cols
   ·rw [ao hc,CY h.tabs];rfl
   ·rw [au hc,Iw (by omega)];rfl
  show some ((R':Int),(C':Int),fitG s.grid R' C' gone,(aL R' C' s).main,i64.wrap (s.row-(gone:Int)),(if (C':Int)-1<s.col then (C':Int)-1 else s.col),s.late,s.pen,(0:Int),i64.wrap ((R':Int)-1),s.modes,(s.sv0,s.sv1),widF s.cols (C':Int) 199 s.tabs,s.title)=_
  rw [<-ht,ag (x:=s.row-(gone:Int)) (by omega),ag (x:=(R':Int)-1) (by omega)]
  show _=some ((aL R' C' s).rows,(aL R' C' s).cols,(aL R' C' s).grid,(aL R' C' s).main,(aL R' C' s).row,(aL R' C' s).col,(aL R' C' s).late,(aL R' C' s).pen,(aL R' C' s).top,(aL R' C' s).bottom,(aL R' C' s).modes,((aL R' C' s).sv0,(aL R' C' s).sv1),(aL R' C' s).tabs,(aL R' C' s).title)
  have hg:(aL R' C' s).grid=fitG s.grid R' C' gone:=by unfold aL;simp only [hgone,Int.toNat_natCast]
  have hrw:(aL R' C' s).row=s.row-(gone:Int):=by unfold aL;simp only [hgone]
  rw [hg,hrw]
  rfl
def zG:Nat->Sc->Sc
 | 0,s=>s
 | k+1,s=>zG k (zF s)
theorem FP {s:Sc} {R C:Nat} (h:PreS s R C):PreS (zF s) R C:=by
 obtain ⟨_,h2,h3⟩:=tX h.e h.g h.row [] []
 rw [<-h.hr] at h2 h3
 refine ⟨h.hr,h.hc,h.e,?_,?_,h.col,h.md⟩
 ·show gok (mh s.rows s.row s.top s.bottom s.pen s.grid).1 R C
  rw [h.hr] at h2 ⊢;exact h2
 ·show 0<=(mh s.rows s.row s.top s.bottom s.pen s.grid).2/\(mh s.rows s.row s.top s.bottom s.pen s.grid).2<R
  rw [h.hr] at h3 ⊢;exact h3
theorem CF:∀(k:Nat) (s:Sc),zG k s={ s with grid:=(tY s.rows s.top s.bottom s.pen k (s.grid,s.row)).1,row:=(tY s.rows s.top s.bottom s.pen k (s.grid,s.row)).2 }
 | 0,s=>rfl
 | k+1,s=>by
  unfold zG
  rw [CF k (zF s)]
  rfl
theorem zS {ch:ChT} (hn:ch.2.1<=1000):∀(k:Nat) (i:Int) {s:Sc} {R C:Nat},PreS s R C->ch.2.1-i<=k->(k:Int)<=ch.2.1-i\/k=0->0<=i->ap (cd ch) (i,s.w)=some (zG k s).w
 | 0,i,s,R,C,h,h1,h2,hi=>by
  rw [aj]
  have:cd ch (i,s.w)=some (.inl s.w):=by
   unfold cd
   rw [au (by omega:¬i<ch.2.1)];rfl
  rw [this];rfl
 | k+1,i,s,R,C,h,h1,h2,hi=>by
  rw [aj]
  have:cd ch (i,s.w)=some (.inr (i+1,(zF s).w)):=by
   unfold cd
   rw [ao (by omega:i<ch.2.1)]
   refine ab rfl ?_
   simp only [cond_true]
   refine ab (xi h) ?_
   rw [ag (by omega)]
   rfl
  rw [this]
  exact zS hn k (i+1) (FP h) (by omega) (by omega) (by omega)
theorem DE {t:TabT} (ht:bk t) {C:Nat} (hC:1<=C/\C<=200) {c:Int} (hc:0<=c):∃x:Int,fh t c (C:Int)=some x/\(jm t c (C:Int)).getD 0=x/\0<=x:=by
 obtain ⟨a,rfl⟩:∃k:Nat,c=k:=⟨c.toNat,by omega⟩
 exact ⟨_,Dt ht hC,by rw [Ju ht hC];rfl,by omega⟩
theorem Eb {t:TabT} (ht:bk t) {c:Int} (hc:0<=c):∃x:Int,fp t c=some x/\(jn t c).getD 0=x/\0<=x:=by
 obtain ⟨a,rfl⟩:∃k:Nat,c=k:=⟨c.toNat,by omega⟩
 exact ⟨_,Dw ht,by rw [JB ht];rfl,by omega⟩
theorem zR {ch:ChT} (hn:ch.2.1<=1000) {s:Sc} {C:Nat} (hc:s.cols=C) (hC:1<=C/\C<=200) (ht:bk s.tabs):∀(k:Nat) (i col:Int),ch.2.1-i<=k->(k:Int)<=ch.2.1-i\/k=0->0<=i->0<=col->ap (ca ch s.t) (i,col)=some (my s.tabs C k col)/\0<=my s.tabs C k col
 | 0,i,col,h1,h2,hi,hcol=>by
  rw [aj]
  have:ca ch s.t (i,col)=some (.inl col):=by
   unfold ca
   rw [au (by omega:¬i<ch.2.1)];rfl
  rw [this];exact ⟨rfl,hcol⟩
 | k+1,i,col,h1,h2,hi,hcol=>by
  obtain ⟨x,q1,q2,q3⟩:=DE ht hC hcol
  rw [aj]
  have:ca ch s.t (i,col)=some (.inr (i+1,x)):=by
   unfold ca
   rw [ao (by omega:i<ch.2.1)]
   refine ab rfl ?_
   simp only [cond_true]
   have q1':fh s.tabs col s.cols=some x:=by rw [hc];exact q1
   refine ab q1' ?_
   rw [ag (by omega)]
  rw [this]
  have hu:my s.tabs C (k+1) col=my s.tabs C k x:=by rw [my,q2]
  rw [hu]
  exact zR hn hc hC ht k (i+1) x (by omega) (by omega) (by omega) q3
theorem zQ {ch:ChT} (hn:-1000<=ch.2.1) {s:Sc} (ht:bk s.tabs):∀(k:Nat) (i col:Int),i-ch.2.1<=k->(k:Int)<=i-ch.2.1\/k=0->i<=0->0<=col->ap (bZ ch s.t) (i,col)=some (n9 s.tabs k col)
 | 0,i,col,h1,h2,hi,hcol=>by
  rw [aj]
  have:bZ ch s.t (i,col)=some (.inl col):=by
   unfold bZ
   rw [au (by omega:¬i>ch.2.1)];rfl
  rw [this];rfl
 | k+1,i,col,h1,h2,hi,hcol=>by
  obtain ⟨x,q1,q2,q3⟩:=Eb ht hcol
  rw [aj]
  have:bZ ch s.t (i,col)=some (.inr (i-1,x)):=by
   unfold bZ
   rw [ao (by omega:i>ch.2.1)]
   refine ab rfl ?_
   simp only [cond_true]
   refine ab (show fp s.tabs col=some x from q1) ?_
   rw [ag (by omega)]
  rw [this]
  have hu:n9 s.tabs (k+1) col=n9 s.tabs k x:=by rw [n9,q2]
  rw [hu]
  exact zQ hn ht k (i-1) x (by omega) (by omega) (by omega) q3
theorem qZ {ch:ChT} (hb:ch.2.2.2.2.2.length<=1000000):∀(m i:Nat) (acc:List Int),i+m=ch.2.2.2.2.2.length->cF acc=true->ap (ck ch) ((i:Int),acc)=some ((ch.2.2.2.2.2.drop i).foldl lf acc)
 | 0,i,acc,h,ha=>by
  have e:i=ch.2.2.2.2.2.length:=by omega
  rw [aj]
  have:ck ch ((i:Int),acc)=some (.inl acc):=by
   unfold ck
   simp only [bt,Option.bind_some]
   rw [au (by omega:¬(i:Int)<(ch.2.2.2.2.2.length:Int))]
   simp only [cond_false,rleq,aJ]
  rw [this,e,List.drop_length]
  rfl
 | m+1,i,acc,h,ha=>by
  have hi:i<ch.2.2.2.2.2.length:=by omega
  have hac:acc.length<=60:=by
   simp only [cF,Bool.and_eq_true,decide_eq_true_eq] at ha;exact ha.1
  rw [aj,List.drop_eq_getElem_cons hi]
  have:ck ch ((i:Int),acc)=some (.inr (((i+1:Nat):Int),lf acc ch.2.2.2.2.2[i])):=by
   unfold ck
   simp only [bt]
   rw [ao (by omega:(i:Int)<(ch.2.2.2.2.2.length:Int)),aP,List.getElem?_eq_getElem hi]
   simp only [bt2,Option.bind_some,kU,rleq,aJ,cond_true]
   have e:(bif decide (ae ch.2.2.2.2.2[i]>0)&&decide ((acc.length:Int)<60) then req ((acc++[ch.2.2.2.2.2[i]]).length*4<=aS) (some (acc++[ch.2.2.2.2.2[i]])) else some acc:Option (List Int))=some (lf acc ch.2.2.2.2.2[i]):=by
    unfold lf
    rw [ac (by simp only [List.length_append,List.length_singleton];unfold aS;omega)]
    cases (decide (ae ch.2.2.2.2.2[i]>0)&&decide ((acc.length:Int)<60)) <;> rfl
   rw [e]
   simp only [Option.bind_some]
   rw [ag (by omega)];rfl
  rw [this]
  exact qZ hb m (i+1) _ (by omega) (rq ha _)
theorem Av {s:Sc} {C:Nat} (hc:s.cols=C) (hC:C<=200):ap (dm s.t) (0,[])=some (List.replicate C zX):=by
 have h:=gt (step:=dm s.t) (n:=C) (u:=fun _=>zX) (fun k acc hk ha=>by
  unfold dm
  show ((bif decide ((k:Int)<s.cols) then some true else some false:Option Bool).bind fun x86=>_)=_
  rw [hc,ao (by omega:(k:Int)<(C:Int))]
  simp only [Option.bind_some,cond_true,rleq,aJ]
  rw [ac (mxB (by simp;omega)),ag (by omega)];rfl) (fun acc ha=>by
  unfold dm
  show ((bif decide ((C:Int)<s.cols) then some true else some false:Option Bool).bind fun x86=>_)=_
  rw [hc,au (by omega:¬(C:Int)<(C:Int))]
  simp only [Option.bind_some,cond_false,rleq,aJ])
 rw [h,List.map_const',List.length_range]
theorem Cc {s:Sc} {R C:Nat} (hr:s.rows=R) (hc:s.cols=C) (hs:szR R C) (hg:gok s.grid R C):ap (dn s.t) (0,[])=some (p5 s.grid):=by
 unfold szR at hs
 have h:=gt (step:=dn s.t) (n:=R) (u:=fun _=>List.replicate C zX) (fun k acc hk ha=>by
  unfold dn
  show ((bif decide ((k:Int)<s.rows) then some true else some false:Option Bool).bind fun x86=>_)=_
  rw [hr,ao (by omega:(k:Int)<(R:Int)),Av hc (by omega)]
  simp only [Option.bind_some,cond_true,rleq,aJ]
  rw [ac (mxL (by simp;omega)),ag (by omega)];rfl) (fun acc ha=>by
  unfold dn
  show ((bif decide ((R:Int)<s.rows) then some true else some false:Option Bool).bind fun x86=>_)=_
  rw [hr,au (by omega:¬(R:Int)<(R:Int))]
  simp only [Option.bind_some,cond_false,rleq,aJ])
 rw [h]
 congr 1
 unfold p5
 refine qj (by simp [hg.1]) fun i hi=>?_
 obtain ⟨l,hl1,hl2,_⟩:=fR hg hi
 rw [List.getElem?_map,hl1]
 simp [hl2]
theorem EF {R C:Nat} (hs:szR R C):g5 (R:Int) (C:Int)=some (nM R C).t:=by
 unfold szR at hs
 unfold g5
 refine ab (sR (by omega) (by omega) _) ?_
 refine ab (vE qd 0 (C:Int)) ?_
 have hu:ne C=widF 0 (C:Int) 199 (0,0,0,0):=by
  have h1:=kE (n:=C) (by omega)
  unfold gh at h1
  have h2:=CY qd 0 (C:Int)
  have h3:cx (0,0,0,0) 0 (C:Int)=some (ne C):=by
   cases hw:cx (0,0,0,0) 0 (C:Int) with
   | none=>
    have hw':cx ((0,0,0,0):TabT) 0 (C:Int)=none:=hw
    rw [hw'] at h2;simp at h2
   | some x=>
    have hw':(cx ((0,0,0,0):TabT) 0 (C:Int)).bind (fun x1=>some x1)=some (ne C):=h1
    have hw2:cx ((0,0,0,0):TabT) 0 (C:Int)=some x:=hw
    rw [hw2] at hw'
    exact hw'
  have h3':cx ((0,0,0,0):TabT) 0 (C:Int)=some (ne C):=h3
  rw [h3'] at h2
  exact Option.some.inj h2
 show some ((R:Int),(C:Int),dE R C (0,0,0),([]:aA),(0:Int),(0:Int),false,((0,0,0):PenT),(0:Int),i64.wrap ((R:Int)-1),(9:Int),((m9,m9):pg×pg),widF 0 (C:Int) 199 (0,0,0,0),([]:List Int))=_
 rw [<-hu,ag (by omega)]
 rfl
end Go.SH
namespace Go.SH
open IntKind (i64 u64 i32 u8)
def s0 (s:Sc):Sc:={ s with late:=false }
theorem lx {s:Sc} {R C:Nat} (h:OkS s R C):OkS (s0 s) R C:=⟨h.hr,h.hc,h.sz,h.g,h.m,h.row,h.col,(fun hl=>by simp [s0] at hl),h.top,h.bot,h.tb,h.md,h.pen,h.s0,h.s1,h.ti,h.tabs⟩
theorem fO {s:Sc} {k n m c n' m':Int} {L T:List Int} (h1:1<=k) (h27:k<=27) (k1:(k==1)=false) (k25:(k==25)=false) (k26:(k==26)=false) (k10:(k==10)=false) (k21:(k==21)=false) (k20:(k==20)=false)
  (hnm:((bif k !=27 then (ah n (-1000) 1000).bind fun x8=>(ah m (-1000) 1000).bind fun x9=>some (x8,x9) else some (n,m):Option (Int×Int)))=some (n',m')) {x y:ScrT}
  (hcur:bd (s0 s).t (k,n',m',c,L,T)=some x) (hed:bc x (k,n',m',c,L,T)=some y):an s.t (k,n,m,c,L,T)=some y:=by
 unfold an
 refine ab (x:=false) ?_ ?_
 ·show (bif decide (k<1) then some true else bif decide (k>27) then some true else some false:Option Bool)=_
  rw [au (by omega),au (by omega)];rfl
 refine ab (bt _) ?_
 show (bif k==20 then _ else _:Option ScrT)=_
 rw [k20]
 refine ab (x:=(n',m')) (ab (bt _) hnm) ?_
 refine ab (bt _) ?_
 show (bif k==1 then _ else _:Option ScrT)=_
 rw [k1]
 refine ab (bt _) ?_
 show (bif k==25 then _ else _:Option ScrT)=_
 rw [k25]
 refine ab (bt _) ?_
 show (bif k==26 then _ else _:Option ScrT)=_
 rw [k26]
 refine ab (bt _) ?_
 show (bif k==10 then _ else _:Option ScrT)=_
 rw [k10]
 refine ab (bt _) ?_
 show (bif k==21 then _ else _:Option ScrT)=_
 rw [k21]
 exact ab hcur (ab hed rfl)
theorem ju {k n m:Int} (h:(k !=27)=true):((bif k !=27 then (ah n (-1000) 1000).bind fun x8=>(ah m (-1000) 1000).bind fun x9=>some (x8,x9) else some (n,m):Option (Int×Int)))=some (betw n (-1000) 1000,betw m (-1000) 1000):=by
 rw [h,cO (by omega),cO (by omega)];rfl
theorem xz {n m:Int}:((ah n (-1000) 1000).bind fun x8=>(ah m (-1000) 1000).bind fun x9=>some (x8,x9))=some (betw n (-1000) 1000,betw m (-1000) 1000):=by
 rw [cO (by omega),cO (by omega)];rfl
section
variable {s:Sc} {R C:Nat} {n m c:Int} {L T:List Int}
theorem L8 (h:OkS s R C):an s.t (2,n,m,c,L,T)=some (oneM s (2,n,m,c,L,T)).t:=by
 have b:=eQ (n:=n) (lo:=-1000) (hi:=1000) (by omega)
 have hl:=zS (ch:=(2,betw n (-1000) 1000,betw m (-1000) 1000,c,L,T)) b.2 (betw n (-1000) 1000).toNat 0 (lx h).pre (by simp only;omega) (by simp only;omega) (by omega)
 refine fO (by omega) (by omega) rfl rfl rfl rfl rfl rfl (ju rfl) (x:=(zG (betw n (-1000) 1000).toNat (s0 s)).t) ?_ ?_
 ·unfold bd
  refine ab (x:=(zG (betw n (-1000) 1000).toNat (s0 s)).w) ?_ rfl
  refine ab (x:=true) rfl ?_
  exact ab hl rfl
 ·rw [CF];rfl
theorem L7 (h:OkS s R C):an s.t (3,n,m,c,L,T)=some (oneM s (3,n,m,c,L,T)).t:=by
 have hp:=(lx h).pre
 have hs:=h.sz
 unfold szR at hs
 have hrow:=h.row
 refine fO (by omega) (by omega) rfl rfl rfl rfl rfl rfl (ju rfl) (x:=(ek (3,betw n (-1000) 1000,betw m (-1000) 1000,c,L,T) s).t) ?_ rfl
 unfold bd
 refine ab (x:=(ek (3,betw n (-1000) 1000,betw m (-1000) 1000,c,L,T) s).w) ?_ rfl
 refine ab (x:=false) rfl ?_
 refine ab (x:=(s.row==s.top)) (bt _) ?_
 have hmv:(ek (3,betw n (-1000) 1000,betw m (-1000) 1000,c,L,T) s)=bif s.row==s.top then { s with grid:=scrM s.grid s.top s.bottom (-1) s.pen,late:=false } else { s with row:=if s.row-1>0 then s.row-1 else 0,late:=false }:=by
  unfold ek nN
  simp only [show ((3:Int)==2)=false from rfl,show ((3:Int)==3)=true from rfl,cond_false,cond_true]
  cases s.row==s.top <;> rfl
 rw [hmv]
 cases hrt:(s.row==s.top) with
 | true=>exact ab (jN hp.g hp.e.sz hp.e.etop hp.e.etb hp.e.ebot (by omega)) rfl
 | false=>
  refine ab (x:=decide (s.row>0)) (bt _) ?_
  by_cases h0:s.row>0
  ·rw [ao h0]
   show some ({ s with row:=i64.wrap (s.row-1),late:=false }:Sc).w=some ({ s with row:=if s.row-1>0 then s.row-1 else 0,late:=false }:Sc).w
   rw [ag (by omega)]
   have:(if s.row-1>0 then s.row-1 else (0:Int))=s.row-1:=by split <;> omega
   rw [this]
  ·rw [au h0]
   show some ({ s with late:=false }:Sc).w=some ({ s with row:=if s.row-1>0 then s.row-1 else 0,late:=false }:Sc).w
   have:(if s.row-1>0 then s.row-1 else (0:Int))=s.row:=by split <;> omega
   rw [this]
theorem L6 (h:OkS s R C):an s.t (4,n,m,c,L,T)=some (oneM s (4,n,m,c,L,T)).t:=
 fO (by omega) (by omega) rfl rfl rfl rfl rfl rfl (ju rfl) (x:=({ s with col:=0,late:=false }:Sc).t) rfl rfl
theorem L5 (h:OkS s R C):an s.t (5,n,m,c,L,T)=some (oneM s (5,n,m,c,L,T)).t:=by
 have hp:=(lx h).pre
 have b:=eQ (n:=n) (lo:=-1000) (hi:=1000) (by omega)
 have hm:=sM hp (r:=betw n (-1000) 1000) (by omega) (betw m (-1000) 1000)
 refine fO (by omega) (by omega) rfl rfl rfl rfl rfl rfl (ju rfl) (x:=(ek (5,betw n (-1000) 1000,betw m (-1000) 1000,c,L,T) s).t) ?_ rfl
 unfold bd
 refine ab (x:=(ek (5,betw n (-1000) 1000,betw m (-1000) 1000,c,L,T) s).w) ?_ rfl
 exact ab (x:=false) rfl (ab hm rfl)
theorem L4 (h:OkS s R C):an s.t (6,n,m,c,L,T)=some (oneM s (6,n,m,c,L,T)).t:=by
 have hp:=(lx h).pre
 have b:=eQ (n:=n) (lo:=-1000) (hi:=1000) (by omega)
 have b2:=eQ (n:=m) (lo:=-1000) (hi:=1000) (by omega)
 have hm:=Dp hp (n:=betw n (-1000) 1000) (m:=betw m (-1000) 1000) (by omega) (by omega)
 refine fO (by omega) (by omega) rfl rfl rfl rfl rfl rfl (ju rfl) (x:=(ek (6,betw n (-1000) 1000,betw m (-1000) 1000,c,L,T) s).t) ?_ rfl
 unfold bd
 refine ab (x:=(ek (6,betw n (-1000) 1000,betw m (-1000) 1000,c,L,T) s).w) ?_ rfl
 exact ab (x:=false) rfl (ab hm rfl)
theorem LZ (h:OkS s R C):an s.t (7,n,m,c,L,T)=some (oneM s (7,n,m,c,L,T)).t:=by
 have hs:=h.sz
 unfold szR at hs
 have hC:=h.hc
 refine fO (by omega) (by omega) rfl rfl rfl rfl rfl rfl (ju rfl) (x:=(ek (7,betw n (-1000) 1000,betw m (-1000) 1000,c,L,T) s).t) ?_ rfl
 unfold bd
 refine ab (x:=(ek (7,betw n (-1000) 1000,betw m (-1000) 1000,c,L,T) s).w) ?_ rfl
 refine ab (x:=false) rfl (ab (x:=betw (betw n (-1000) 1000) 0 (s.cols-1)) ?_ rfl)
 show ah (betw n (-1000) 1000) 0 (i64.wrap (s.cols-1))=_
 rw [ag (by omega),cO (by omega)]
theorem LY (h:OkS s R C):an s.t (8,n,m,c,L,T)=some (oneM s (8,n,m,c,L,T)).t:=by
 have hp:=(lx h).pre
 have b:=eQ (n:=n) (lo:=-1000) (hi:=1000) (by omega)
 have hm:=sM hp (r:=betw n (-1000) 1000) (by omega) s.col
 refine fO (by omega) (by omega) rfl rfl rfl rfl rfl rfl (ju rfl) (x:=(ek (8,betw n (-1000) 1000,betw m (-1000) 1000,c,L,T) s).t) ?_ rfl
 unfold bd
 refine ab (x:=(ek (8,betw n (-1000) 1000,betw m (-1000) 1000,c,L,T) s).w) ?_ rfl
 exact ab (x:=false) rfl (ab hm rfl)
theorem LW (h:OkS s R C):an s.t (9,n,m,c,L,T)=some (oneM s (9,n,m,c,L,T)).t:=by
 have hs:=h.sz
 unfold szR at hs
 have hC:=h.hc
 have hcol:=h.col
 have b:=eQ (n:=n) (lo:=-1000) (hi:=1000) (by omega)
 obtain ⟨l1,l2⟩:=zR (ch:=(9,betw n (-1000) 1000,betw m (-1000) 1000,c,L,T)) b.2 (s:=s0 s) (C:=C) h.hc (by omega) h.tabs (betw n (-1000) 1000).toNat 0 s.col (by simp only;omega) (by simp only;omega) (by omega) hcol.1
 have l3:=zQ (ch:=(9,betw n (-1000) 1000,betw m (-1000) 1000,c,L,T)) b.1 (s:=s0 s) h.tabs (-betw n (-1000) 1000).toNat 0 _ (by simp only;omega) (by simp only;omega) (by omega) l2
 refine fO (by omega) (by omega) rfl rfl rfl rfl rfl rfl (ju rfl) (x:=(ek (9,betw n (-1000) 1000,betw m (-1000) 1000,c,L,T) s).t) ?_ rfl
 unfold bd
 refine ab (x:=(ek (9,betw n (-1000) 1000,betw m (-1000) 1000,c,L,T) s).w) ?_ rfl
 refine ab (x:=false) rfl (ab l1 (ab l3 ?_))
 have hmv:(ek (9,betw n (-1000) 1000,betw m (-1000) 1000,c,L,T) s)={ s with col:=n9 s.tabs (-betw n (-1000) 1000).toNat (my s.tabs s.cols (betw n (-1000) 1000).toNat s.col),late:=false }:=rfl
 rw [hmv,<-hC]
 rfl
theorem KF (h:OkS s R C):an s.t (11,n,m,c,L,T)=some (oneM s (11,n,m,c,L,T)).t:=by
 have hs:=h.sz
 unfold szR at hs
 have hC:=h.hc
 have hp:=(lx h).pre
 refine fO (by omega) (by omega) rfl rfl rfl rfl rfl rfl (ju rfl) (x:=(s0 s).t) rfl ?_
 unfold bc
 refine ab (x:=(gG (11,betw n (-1000) 1000,betw m (-1000) 1000,c,L,T) (s0 s)).w) (ab (x:=true) rfl ?_) rfl
 have hw:i64.wrap (s.cols-1)=s.cols-1:=ag (by omega)
 refine ab (x:=({ s0 s with grid:=oR (betw n (-1000) 1000) (s.row,0) (s.row,s.col) (s.row,s.cols-1) s.pen s.grid }:Sc).t) ?_ rfl
 show dx (s0 s).t (betw n (-1000) 1000) (s.row,0) (s.row,i64.wrap (s.cols-1))=_
 rw [hw]
 exact zm hp _ _ _
theorem KE (h:OkS s R C):an s.t (12,n,m,c,L,T)=some (oneM s (12,n,m,c,L,T)).t:=by
 have hs:=h.sz
 unfold szR at hs
 have hC:=h.hc;have hR:=h.hr
 have hp:=(lx h).pre
 refine fO (by omega) (by omega) rfl rfl rfl rfl rfl rfl (ju rfl) (x:=(s0 s).t) rfl ?_
 unfold bc
 refine ab (x:=(gG (12,betw n (-1000) 1000,betw m (-1000) 1000,c,L,T) (s0 s)).w) (ab (x:=false) rfl ?_) rfl
 have hw:i64.wrap (s.cols-1)=s.cols-1:=ag (by omega)
 have hw2:i64.wrap (s.rows-1)=s.rows-1:=ag (by omega)
 refine ab (x:=({ s0 s with grid:=oR (betw n (-1000) 1000) (0,0) (s.row,s.col) (s.rows-1,s.cols-1) s.pen s.grid }:Sc).t) ?_ rfl
 show dx (s0 s).t (betw n (-1000) 1000) (0,0) (i64.wrap (s.rows-1),i64.wrap (s.cols-1))=_
 rw [hw,hw2]
 exact zm hp _ _ _
theorem KD (h:OkS s R C):an s.t (13,n,m,c,L,T)=some (oneM s (13,n,m,c,L,T)).t:=by
 have hp:=(lx h).pre
 obtain ⟨k1,k2,k3⟩:=gY h.g h.row
 have hm:=jv (a:=s.col) (n:=betw n (-1000) 1000) k3 h.pen
 refine fO (by omega) (by omega) rfl rfl rfl rfl rfl rfl (ju rfl) (x:=(s0 s).t) rfl ?_
 unfold bc
 refine ab (x:=(gG (13,betw n (-1000) 1000,betw m (-1000) 1000,c,L,T) (s0 s)).w) (ab (x:=false) rfl ?_) rfl
 exact ab (qh hp) (ab (sQ k3 s.pen) (ab (oA hp ⟨hm.1,hm.2.trans k2⟩) rfl))
theorem KC (h:OkS s R C):an s.t (14,n,m,c,L,T)=some (oneM s (14,n,m,c,L,T)).t:=by
 have hp:=(lx h).pre
 obtain ⟨k1,k2,k3⟩:=gY h.g h.row
 have hm:=vO (a:=s.col) (n:=betw n (-1000) 1000) k3 h.pen
 refine fO (by omega) (by omega) rfl rfl rfl rfl rfl rfl (ju rfl) (x:=(s0 s).t) rfl ?_
 unfold bc
 refine ab (x:=(gG (14,betw n (-1000) 1000,betw m (-1000) 1000,c,L,T) (s0 s)).w) (ab (x:=false) rfl ?_) rfl
 exact ab (qh hp) (ab (Au k3 s.pen) (ab (oA hp ⟨hm.1,hm.2.trans k2⟩) rfl))
theorem FS {l:List ak} {a n:Int} (ha:0<=a) (p:PenT):gc l a (a+n) p=gc l a (a+pos0 n) p:=by
 unfold pos0
 by_cases h:n>0
 ·rw [if_pos h]
 ·rw [if_neg h]
  have:∀t:Int,t<=a->gc l a t p=l:=fun t ht=>by
   unfold gc
   rw [if_pos]
   unfold low0 hiL
   split <;> split <;> omega
  rw [this _ (by omega),this _ (by omega)]
theorem KB (h:OkS s R C):an s.t (15,n,m,c,L,T)=some (oneM s (15,n,m,c,L,T)).t:=by
 have hp:=(lx h).pre
 have hs:=h.sz
 unfold szR at hs
 have hcol:=h.col
 have b:=eQ (n:=n) (lo:=-1000) (hi:=1000) (by omega)
 obtain ⟨k1,k2,k3⟩:=gY h.g h.row
 have hm:=rX (f:=s.col) (t:=s.col+pos0 (betw n (-1000) 1000)) k3 h.pen
 refine fO (by omega) (by omega) rfl rfl rfl rfl rfl rfl (ju rfl) (x:=(s0 s).t) rfl ?_
 unfold bc
 refine ab (x:=(gG (15,betw n (-1000) 1000,betw m (-1000) 1000,c,L,T) (s0 s)).w) (ab (x:=false) rfl ?_) rfl
 refine ab (qh hp) (ab (x:=gc (rowG s.grid s.row) s.col (s.col+pos0 (betw n (-1000) 1000)) s.pen) ?_ (ab (oA hp ⟨hm.1,hm.2.trans k2⟩) rfl))
 show ey (rowG s.grid s.row) s.col (i64.wrap (s.col+betw n (-1000) 1000)) s.pen=_
 rw [ag (by omega),oB k3,FS hcol.1]
theorem EE (n:Int):((bif decide (n<0) then some true else some false:Option Bool).bind fun x68=>bif x68 then some 0 else some n:Option Int)=some (pos0 n):=by
 unfold pos0
 by_cases h:n<0
 ·rw [ao h,if_neg (by omega)];rfl
 ·rw [au h]
  by_cases h2:n>0
  ·rw [if_pos h2];rfl
  ·rw [if_neg h2,show n=0 from by omega];rfl
theorem zj {a b c:Int}:((bif decide (a>=b) then bif decide (a<=c) then some true else some false else some false:Option Bool))=some (!(decide (a<b)||decide (a>c))):=by
 have e1:decide (a>=b) = !decide (a<b):=by rw [Bool.eq_iff_iff];simp
 have e2:decide (a<=c) = !decide (a>c):=by rw [Bool.eq_iff_iff];simp
 rw [e1,e2]
 cases decide (a<b) <;> cases decide (a>c) <;> rfl
theorem KA (h:OkS s R C):an s.t (16,n,m,c,L,T)=some (oneM s (16,n,m,c,L,T)).t:=by
 have hp:=(lx h).pre
 have b:=eQ (n:=n) (lo:=-1000) (hi:=1000) (by omega)
 have hrow:=h.row
 refine fO (by omega) (by omega) rfl rfl rfl rfl rfl rfl (ju rfl) (x:=(s0 s).t) rfl ?_
 unfold bc
 refine ab (x:=(gG (16,betw n (-1000) 1000,betw m (-1000) 1000,c,L,T) (s0 s)).w) (ab (x:=false) rfl ?_) rfl
 refine ab (zj (a:=s.row) (b:=s.top) (c:=s.bottom)) ?_
 have he:gG (16,betw n (-1000) 1000,betw m (-1000) 1000,c,L,T) (s0 s)=bif decide (s.row<s.top)||decide (s.row>s.bottom) then s0 s else { s0 s with grid:=scrM s.grid s.row s.bottom (0-pos0 (betw n (-1000) 1000)) s.pen,col:=0 }:=rfl
 rw [he]
 cases hc:(decide (s.row<s.top)||decide (s.row>s.bottom)) with
 | true=>rfl
 | false=>
  simp only [Bool.or_eq_false_iff,decide_eq_false_iff_not] at hc
  refine ab (EE _) ?_
  have hp0:0<=pos0 (betw n (-1000) 1000)/\pos0 (betw n (-1000) 1000)<=1000:=by unfold pos0;split <;> omega
  refine ab (x:=0-pos0 (betw n (-1000) 1000)) (by show some (i64.wrap ((0:Int)-pos0 (betw n (-1000) 1000)))=_;rw [ag (by omega)]) ?_
  exact ab (jN hp.g hp.e.sz hrow.1 (show s.row<=s.bottom by omega) hp.e.ebot (by omega)) rfl
theorem Kz (h:OkS s R C):an s.t (17,n,m,c,L,T)=some (oneM s (17,n,m,c,L,T)).t:=by
 have hp:=(lx h).pre
 have b:=eQ (n:=n) (lo:=-1000) (hi:=1000) (by omega)
 have hrow:=h.row
 refine fO (by omega) (by omega) rfl rfl rfl rfl rfl rfl (ju rfl) (x:=(s0 s).t) rfl ?_
 unfold bc
 refine ab (x:=(gG (17,betw n (-1000) 1000,betw m (-1000) 1000,c,L,T) (s0 s)).w) (ab (x:=false) rfl ?_) rfl
 refine ab (zj (a:=s.row) (b:=s.top) (c:=s.bottom)) ?_
 have he:gG (17,betw n (-1000) 1000,betw m (-1000) 1000,c,L,T) (s0 s)=bif decide (s.row<s.top)||decide (s.row>s.bottom) then s0 s else { s0 s with grid:=scrM s.grid s.row s.bottom (pos0 (betw n (-1000) 1000)) s.pen,col:=0 }:=rfl
 rw [he]
 cases hc:(decide (s.row<s.top)||decide (s.row>s.bottom)) with
 | true=>rfl
 | false=>
  simp only [Bool.or_eq_false_iff,decide_eq_false_iff_not] at hc
  refine ab (EE _) ?_
  have hp0:0<=pos0 (betw n (-1000) 1000)/\pos0 (betw n (-1000) 1000)<=1000:=by unfold pos0;split <;> omega
  refine ab (x:=pos0 (betw n (-1000) 1000)) rfl ?_
  exact ab (jN hp.g hp.e.sz hrow.1 (show s.row<=s.bottom by omega) hp.e.ebot (by omega)) rfl
theorem Ky (h:OkS s R C):an s.t (18,n,m,c,L,T)=some (oneM s (18,n,m,c,L,T)).t:=by
 have hp:=(lx h).pre
 have b:=eQ (n:=n) (lo:=-1000) (hi:=1000) (by omega)
 refine fO (by omega) (by omega) rfl rfl rfl rfl rfl rfl (ju rfl) (x:=(s0 s).t) rfl ?_
 unfold bc
 refine ab (x:=(gG (18,betw n (-1000) 1000,betw m (-1000) 1000,c,L,T) (s0 s)).w) (ab (x:=false) rfl ?_) rfl
 exact ab (jN (n:=betw n (-1000) 1000) hp.g hp.e.sz hp.e.etop hp.e.etb hp.e.ebot (by omega)) rfl
theorem Kw (h:OkS s R C):an s.t (19,n,m,c,L,T)=some (oneM s (19,n,m,c,L,T)).t:=by
 have hp:=(lx h).pre
 have hR:=h.hr
 refine fO (by omega) (by omega) rfl rfl rfl rfl rfl rfl (ju rfl) (x:=(gG (19,betw n (-1000) 1000,betw m (-1000) 1000,c,L,T) (s0 s)).t) ?_ rfl
 unfold bd
 refine ab (x:=(gG (19,betw n (-1000) 1000,betw m (-1000) 1000,c,L,T) (s0 s)).w) ?_ rfl
 refine ab (x:=false) rfl ?_
 have b3:∀a b c:Bool,(bif a then bif b then bif c then some true else some false else some false else some false:Option Bool)=some (a&&(b&&c)):=fun a b c=>by cases a <;> cases b <;> cases c <;> rfl
 refine ab (b3 (decide (betw n (-1000) 1000>=0)) (decide (betw n (-1000) 1000<betw m (-1000) 1000)) (decide (betw m (-1000) 1000<s.rows))) ?_
 have he:gG (19,betw n (-1000) 1000,betw m (-1000) 1000,c,L,T) (s0 s)=bif decide (betw n (-1000) 1000>=0)&&(decide (betw n (-1000) 1000<betw m (-1000) 1000)&&decide (betw m (-1000) 1000<s.rows)) then
  {s0 s with row:=(iB 0 0 s.rows s.cols (betw n (-1000) 1000) (betw m (-1000) 1000) s.modes).1,col:=(iB 0 0 s.rows s.cols (betw n (-1000) 1000) (betw m (-1000) 1000) s.modes).2,late:=false,top:=betw n (-1000) 1000,bottom:=betw m (-1000) 1000 } else s0 s:=rfl
 rw [he]
 cases hc:(decide (betw n (-1000) 1000>=0)&&(decide (betw n (-1000) 1000<betw m (-1000) 1000)&&decide (betw m (-1000) 1000<s.rows))) with
 | true=>
  simp only [Bool.and_eq_true,decide_eq_true_eq] at hc
  have hp2:PreS { s0 s with top:=betw n (-1000) 1000,bottom:=betw m (-1000) 1000 } R C:=⟨h.hr,h.hc,⟨h.sz,hc.1,Int.le_of_lt hc.2.1,by rw [<-hR];exact hc.2.2,h.pen⟩,h.g,h.row,h.col,h.md⟩
  have hm:=sM hp2 (r:=0) (by omega) 0
  exact ab hm rfl
 | false=>rfl
theorem Kt (h:OkS s R C):an s.t (22,n,m,c,L,T)=some (oneM s (22,n,m,c,L,T)).t:=by
 have hp:=(lx h).pre
 have hr:=vD hp
 refine fO (by omega) (by omega) rfl rfl rfl rfl rfl rfl (ju rfl) (x:=(cN s).t) ?_ rfl
 unfold bd
 refine ab (x:=(cN s).w) ?_ rfl
 exact ab (x:=false) rfl (ab hr rfl)
theorem Ks (h:OkS s R C):an s.t (23,n,m,c,L,T)=some (oneM s (23,n,m,c,L,T)).t:=by
 have hs:=h.sz
 unfold szR at hs
 have hR:=h.hr
 have hl:=Cc (s:=s0 s) h.hr h.hc h.sz h.g
 refine fO (by omega) (by omega) rfl rfl rfl rfl rfl rfl (ju rfl) (x:=(s0 s).t) rfl ?_
 unfold bc
 refine ab (x:=(gG (23,betw n (-1000) 1000,betw m (-1000) 1000,c,L,T) (s0 s)).w) (ab (x:=false) rfl (ab hl ?_)) rfl
 rw [rleq]
 show some ({ s0 s with grid:=p5 s.grid,row:=0,col:=0,top:=0,bottom:=i64.wrap (s.rows-1) }:Sc).w=_
 rw [ag (by omega)]
 rfl
theorem Kr (h:OkS s R C):an s.t (24,n,m,c,L,T)=some (oneM s (24,n,m,c,L,T)).t:=by
 have hn:=EF h.sz
 rw [<-h.hr,<-h.hc] at hn
 refine fO (by omega) (by omega) rfl rfl rfl rfl rfl rfl (ju rfl) (x:=(s0 s).t) rfl ?_
 unfold bc
 refine ab (x:=(nM s.rows s.cols).w) (ab (x:=false) rfl (ab hn rfl)) rfl
theorem Ko (h:OkS s R C):an s.t (27,n,m,c,L,T)=some (oneM s (27,n,m,c,L,T)).t:=by
 have hr:=Dq (lx h) rfl n m
 refine fO (n':=n) (m':=m) (by omega) (by omega) rfl rfl rfl rfl rfl rfl rfl (x:=(s0 s).t) rfl ?_
 unfold bc
 refine ab (x:=(aL (betw n 1 200) (betw m 1 200) (s0 s)).w) (ab (x:=false) rfl (ab hr rfl)) rfl
theorem L9 (h:OkS s R C):an s.t (1,n,m,c,L,T)=some (oneM s (1,n,m,c,L,T)).t:=by
 unfold an
 exact ab (x:=false) rfl (ab (x:=(betw n (-1000) 1000,betw m (-1000) 1000)) xz (ab (x:=true) rfl (ab (FA h.pre c) rfl)))
theorem Kq (h:OkS s R C) (hL:L.length<=1000000):an s.t (25,n,m,c,L,T)=some (oneM s (25,n,m,c,L,T)).t:=by
 unfold an
 exact ab (x:=false) rfl (ab (x:=(betw n (-1000) 1000,betw m (-1000) 1000)) xz (ab (x:=false) rfl (ab (Cb (l:=L) h.pen (by omega)) rfl)))
theorem Kp (h:OkS s R C) (hT:T.length<=1000000):an s.t (26,n,m,c,L,T)=some (oneM s (26,n,m,c,L,T)).t:=by
 have hl:=qZ (ch:=(26,n,m,c,L,T)) hT T.length 0 [] (by simp) rfl
 have hl':ap (ck (26,n,m,c,L,T)) (0,[])=some (Ai T):=hl
 unfold an
 refine ab (x:=false) rfl (ab (x:=(betw n (-1000) 1000,betw m (-1000) 1000)) xz (ab (x:=false) rfl (ab hl' ?_)))
 rw [rleq]
 rfl
theorem Ku (h:OkS s R C):an s.t (21,n,m,c,L,T)=some (oneM s (21,n,m,c,L,T)).t:=by
 unfold an
 exact ab (x:=false) rfl (ab (x:=(betw n (-1000) 1000,betw m (-1000) 1000)) xz (ab (x:=false) rfl (ab (B5 h.md) rfl)))
theorem Kv (h:OkS s R C):an s.t (20,n,m,c,L,T)=some (oneM s (20,n,m,c,L,T)).t:=by
 unfold an
 exact ab (x:=false) rfl (ab (B4 h n (m !=0)) rfl)
theorem KG (h:OkS s R C):an s.t (10,n,m,c,L,T)=some (oneM s (10,n,m,c,L,T)).t:=by
 have hs:=h.sz
 unfold szR at hs
 have hcol:=h.col
 obtain ⟨a,ha⟩:∃k:Nat,s.col=k:=⟨s.col.toNat,by omega⟩
 have ho:oneM s (10,n,m,c,L,T)=vB (betw n (-1000) 1000) s:=rfl
 rw [ho]
 unfold an
 refine ab (x:=false) rfl (ab (x:=(betw n (-1000) 1000,betw m (-1000) 1000)) xz (ab (x:=false) rfl ?_))
 generalize betw n (-1000) 1000=k
 refine ab (x:=(vB k s).tabs) ?_ ?_
 ·refine ab (x:=(k==0)||(k==1)) ?_ ?_
  ·refine ab (bt _) ?_
   show (bif k==0 then some (k==0) else bif k==1 then some true else some false:Option Bool)=_
   cases k==0 <;> cases k==1 <;> rfl
  ·unfold vB
   have hW:∀b:Bool,dY s.tabs s.col b=some (bif b then setT s.tabs a else clrT s.tabs a):=fun b=>by
    rw [ha];exact Fh h.tabs (by omega) b
   have hS:gx s.tabs s.col=some (setT s.tabs a):=by rw [ha];exact Ie h.tabs (by omega)
   have hCl:gi s.tabs s.col=some (clrT s.tabs a):=by rw [ha];exact Ik h.tabs (by omega)
   cases k0:(k==0) with
   | true=>
    refine ab (hW _) ?_
    rw [hS];rfl
   | false=>
    cases k1:(k==1) with
    | true=>
     refine ab (hW _) ?_
     rw [hCl];rfl
    | false=>
     refine ab (bt _) ?_
     show (bif k==2 then some (0,0,0,0) else some s.tabs:Option TabT)=_
     cases k==2 <;> rfl
 ·have:∀x:TabT,vB k s={ s with tabs:=(vB k s).tabs }:=fun _=>by
   unfold vB
   cases k==0 <;> cases k==1 <;> cases k==2 <;> rfl
  rw [this s.tabs]
  rfl
end
theorem KZ {s:Sc} {R C:Nat} (h:OkS s R C) {ch:ChT} (hl:chL ch):an s.t ch=some (oneM s ch).t:=by
 obtain ⟨k,n,m,c,L,T⟩:=ch
 by_cases hk:1<=k/\k<=27
 ·have hcases:k=1\/k=2\/k=3\/k=4\/k=5\/k=6\/k=7\/k=8\/k=9\/k=10\/k=11\/k=12\/k=13\/k=14\/k=15\/k=16\/k=17\/k=18\/k=19\/k=20\/k=21\/k=22\/k=23\/k=24\/k=25\/k=26\/k=27:=by omega
  rcases hcases with rfl | rfl | rfl | rfl | rfl | rfl | rfl | rfl | rfl | rfl | rfl | rfl | rfl | rfl | rfl | rfl | rfl | rfl | rfl | rfl | rfl | rfl | rfl | rfl | rfl | rfl | rfl
  ·exact L9 h
  ·exact L8 h
  ·exact L7 h
  ·exact L6 h
  ·exact L5 h
  ·exact L4 h
  ·exact LZ h
  ·exact LY h
  ·exact LW h
  ·exact KG h
  ·exact KF h
  ·exact KE h
  ·exact KD h
  ·exact KC h
  ·exact KB h
  ·exact KA h
  ·exact Kz h
  ·exact Ky h
  ·exact Kw h
  ·exact Kv h
  ·exact Ku h
  ·exact Kt h
  ·exact Ks h
  ·exact Kr h
  ·exact Kq h hl.1
  ·exact Kp h hl.2
  ·exact Ko h
 ·have e1:oneM s (k,n,m,c,L,T)=s:=by
   unfold oneM ue
   rw [uR]
   have b:∀j:Int,1<=j->j<=27->(k==j)=false:=fun j h1 h2=>by
    rw [beq_eq_false_iff_ne];omega
   simp only [b 1 (by omega) (by omega),b 25 (by omega) (by omega),b 26 (by omega) (by omega),b 10 (by omega) (by omega),b 21 (by omega) (by omega),b 20 (by omega) (by omega),b 22 (by omega) (by omega),b 24 (by omega) (by omega),cond_false]
   have:(decide (k>=1)&&decide (k<=27))=false:=by
    rw [Bool.eq_false_iff];simp only [ne_eq,Bool.and_eq_true,decide_eq_true_eq];omega
   rw [this];rfl
  rw [e1]
  unfold an
  refine ab (x:=true) ?_ rfl
  show (bif decide (k<1) then some true else bif decide (k>27) then some true else some false:Option Bool)=_
  by_cases h1:k<1
  ·rw [ao h1];rfl
  ·rw [au h1,ao (by omega:k>27)];rfl
end Go.SH
namespace Go.SH
open IntKind (i64 u64 i32 u8)
theorem sN {s:ScrT} (h1:small s.2.2.1) (h2:small s.2.2.2.1) (h3:s.2.2.2.2.2.2.2.2.2.2.2.2.2.length<=big):dc s s=some true:=by
 unfold dc
 rw [sO h1,sO h2,B9,Bu h3]
 simp only [decide_true,Option.bind_some,Bool.not_true,cond_false,beq_self_eq_true,Bool.and_true,cond_true,bne_self_eq_false]
theorem OkS.refSame {s:Sc} {R C:Nat} (h:OkS s R C):dc s.t s.t=some true:=sN h.small.1 h.small.2.1 h.small.2.2
theorem B3 {s:Sc} {g:aA} {R C:Nat} (hr:s.rows=R) (hc:s.cols=C) (hs:szR R C) (hg:gok g R C):ff g s.rows s.cols=some true:=by
 have hsz:=hs
 unfold szR at hs
 obtain ⟨b,hb,hb2,_⟩:=fR hg (i:=0) (by omega)
 unfold ff
 refine ab (Du g) ?_
 rw [tS hg hsz]
 have h1:((g.length:Int)==s.rows)=true:=by rw [hg.1,hr];simp
 have h2:((b.length:Int)==s.cols)=true:=by rw [hb2,hc];simp
 show (bif (g.length:Int)==s.rows then _ else _:Option Bool)=_
 rw [h1]
 refine ab (show getI g 0=some b by rw [show (0:Int)=((0:Nat):Int) from rfl,aP,hb]) ?_
 show some ((b.length:Int)==s.cols)=_
 rw [h2]
theorem IH {s:Sc} (h1:dT s.sv0=true) (h2:dT s.sv1=true):ap (bm s.t) 0=some (.inr ()):=by
 have spot:∀x:pg,dT x=true->((bif decide (x.1<0) then some true else bif decide (x.1>199) then some true else bif decide (x.2.1<0) then some true else bif decide (x.2.1>199) then some true else (bH x.2.2.1).bind fun x31=>bif !x31 then some true else some false:Option Bool))=some false:=fun x hx=>by
  simp only [dT,Bool.and_eq_true,decide_eq_true_eq] at hx
  rw [au (by omega),au (by omega),au (by omega),au (by omega),qi,hx.2.2];rfl
 have e0:bm s.t 0=some (.inr 1):=by
  unfold bm
  exact ab (x:=true) rfl (ab (spot s.sv0 h1) rfl)
 have e1:bm s.t 1=some (.inr 2):=by
  unfold bm
  exact ab (x:=true) rfl (ab (spot s.sv1 h2) rfl)
 have e2:bm s.t 2=some (.inl (.inr ())):=rfl
 rw [aj,e0]
 show ap (bm s.t) 1=_
 rw [aj,e1]
 show ap (bm s.t) 2=_
 rw [aj,e2]
theorem IG {s:Sc} (h:cF s.title=true):ap (dL s.t) 0=some (.inr ()):=by
 simp only [cF,Bool.and_eq_true,decide_eq_true_eq,List.all_eq_true] at h
 rw [l8 (step:=dL s.t) (n:=s.title.length) (ok:=fun i=>match s.title[i]? with | some x=>decide (1<=ae x) | none=>true) (e:=.inr ()) (b:=.inl ()) (fun i hi=>by
  unfold dL
  show ((bif decide ((i:Int)<(s.title.length:Int)) then some true else some false:Option Bool).bind fun x40=>_)=_
  rw [ao (by omega:(i:Int)<(s.title.length:Int))]
  simp only [Option.bind_some,cond_true]
  have hg:getI s.t.2.2.2.2.2.2.2.2.2.2.2.2.2 (i:Int)=some s.title[i]:=by show getI s.title (i:Int)=_;rw [aP,List.getElem?_eq_getElem hi]
  rw [hg,ag (by omega),List.getElem?_eq_getElem hi]
  simp only [Option.bind_some,kU,bt]
  have e:decide (ae s.title[i]<1) = !decide (1<=ae s.title[i]):=by rw [Bool.eq_iff_iff];simp
  rw [e]
  cases decide (1<=ae s.title[i]) <;> rfl) (by
  unfold dL
  show ((bif decide ((s.title.length:Int)<(s.title.length:Int)) then some true else some false:Option Bool).bind fun x40=>_)=_
  rw [au (by omega:¬(s.title.length:Int)<(s.title.length:Int))]
  rfl)]
 have:(List.range s.title.length).all (fun i=>match s.title[i]? with | some x=>decide (1<=ae x) | none=>true)=true:=by
  simp only [List.all_eq_true,List.mem_range]
  intro i hi
  rw [List.getElem?_eq_getElem hi]
  exact decide_eq_true (h.2 _ (List.getElem_mem hi))
 rw [this];rfl
theorem OkS.refMay {s:Sc} {R C:Nat} (h:OkS s R C):jO s.t=some true:=by
 have hs:=h.sz
 unfold szR at hs
 have hR:=h.hr;have hC:=h.hc
 have hrow:=h.row;have hcol:=h.col;have htop:=h.top;have hbot:=h.bot;have htb:=h.tb;have hmd:=h.md;have hlate:=h.late
 have hti:=h.ti
 simp only [cF,Bool.and_eq_true,decide_eq_true_eq] at hti
 unfold jO
 refine ab (x:=false) ?_ ?_
 ·show (bif decide (s.modes<0) then some true else bif decide (s.modes>255) then some true else (ff s.grid s.rows s.cols).bind fun x2=>bif !x2 then some true else some false:Option Bool)=_
  rw [au (by omega),au (by omega),B3 h.hr h.hc h.sz h.g];rfl
 refine ab (x:=.inl ()) ?_ ?_
 ·refine ab (x:=aU s.modes) (ab (kH (x:=s.t) h.md (b:=128) (by simp [dO])) (bt _)) ?_
  rcases h.m with ⟨m1,m2⟩ | ⟨m1,m2⟩
  ·rw [m1]
   exact ab (x:=false) (ab (B3 h.hr h.hc h.sz m2) rfl) rfl
  ·rw [m1]
   refine ab (x:=false) ?_ rfl
   show (bif decide ((s.main.length:Int)>0) then some true else some false:Option Bool)=_
   rw [m2];rfl
 refine ab (x:=false) ?_ ?_
 ·show (bif decide (s.row<0) then some true else bif decide (s.row>=s.rows) then some true else bif decide (s.col<0) then some true else bif decide (s.col>=s.cols) then some true else bif decide (s.top<0) then some true else bif decide (s.bottom>=s.rows) then some true else bif s.late then bif s.col !=i64.wrap (s.cols-1) then some true else some false else some false:Option Bool)=_
  rw [au (by omega),au (by omega),au (by omega),au (by omega),au (by omega),au (by omega),ag (by omega)]
  cases hl:s.late with
  | false=>rfl
  | true=>
   have:=hlate hl
   have e:(s.col !=s.cols-1)=false:=by simp;omega
   rw [e];rfl
 have hpt:((bH s.pen).bind fun x22=>bif !x22 then some true else bif decide ((s.title.length:Int)>60) then some true else some false:Option Bool)=some false:=by
  rw [qi,h.pen,au (by omega)];rfl
 refine ab (x:=false) ?_ ?_
 ·show (bif decide (s.top>=s.bottom) then bif decide (s.rows>1) then some true else bif s.top !=0 then some true else bif s.bottom !=0 then some true else (bH s.pen).bind fun x22=>bif !x22 then some true else bif decide ((s.title.length:Int)>60) then some true else some false
   else (bH s.pen).bind fun x22=>bif !x22 then some true else bif decide ((s.title.length:Int)>60) then some true else some false:Option Bool)=_
  rw [hpt]
  by_cases c1:s.top>=s.bottom
  ·have e1:(s.top !=0)=false:=by simp;omega
   have e2:(s.bottom !=0)=false:=by simp;omega
   rw [ao c1,au (by omega),e1,e2];rfl
  ·rw [au c1];rfl
 refine ab (IH h.s0 h.s1) ?_
 exact ab (IG h.ti) rfl
end Go.SH
