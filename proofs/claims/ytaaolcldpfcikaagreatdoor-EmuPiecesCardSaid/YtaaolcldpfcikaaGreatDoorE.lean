/- Part 5 of: EmuPieces -/
import Derived.Test.YtaaolcldpfcikaaGreatDoorD
import Derived.Test.YtaaolcldpfcikaaGreatDoorProg
import Derived.Shelf.LaysM
import Derived.Shelf.Strconv.Itoa3
set_option linter.unusedVariables false
set_option linter.unusedSimpArgs false
set_option linter.unusedSectionVars false
noncomputable section
namespace Go.SH
open IntKind (i64 u64 i32 u8)
def iP (g:aw) (x:Int×Int):Bool:=decide (0<=x.1)&&(decide (x.1<g.length)&&(decide (0<=x.2)&&decide (x.2<dV g)))
theorem GW {g:aw} {b:List aq} (hg:g[0]?=some b) (x:Int×Int):fx x g=some (iP g x):=by
 have hl:0<g.length:=(List.getElem?_eq_some_iff.1 hg).1
 unfold fx iP
 rw [re hg]
 rw [show decide (x.1>=0)=decide (0<=x.1) from rfl,show decide (x.2>=0)=decide (0<=x.2) from rfl]
 have e:(req (0<=(0:Int)/\(0:Int)<((g.length:Nat):Int)) ((g[(0:Int).toNat]?).bind fun x1=>some (decide (x.2<(x1.length:Int)))):Option Bool)=some (decide (x.2<(b.length:Int))):=by
  rw [ae (by omega),show (0:Int).toNat=0 from rfl,hg];rfl
 rw [e]
 cases decide (0<=x.1) <;> cases decide (x.1<((g.length:Nat):Int)) <;> cases decide (0<=x.2) <;> cases decide (x.2<(b.length:Int)) <;> rfl
def jH (w:Nat) (f t:Int×Int) (p:PenT) (r:Nat) (l:List aq):List aq:=
 if f.1<=(r:Int)/\(r:Int)<=t.1 then lP l (if (r:Int)=f.1 then f.2 else 0) (if (r:Int)=t.1 then t.2+1 else (w:Int)) p else l
def pM (g:aw) (f t:Int×Int) (p:PenT):aw:=bif iP g f&&iP g t then g.mapIdx (jH (dV g) f t p) else g
theorem rP {g:aw} {R C:Nat} {f t:Int×Int} {p:PenT} (hg:gok g R C) (hp:aJ p=true):gok (pM g f t p) R C:=by
 unfold pM
 cases (iP g f&&iP g t) with
 | false=>exact hg
 | true=>
  refine Hl (by simp [hg.1]) fun i l hi=>?_
  simp only [cond_true,List.getElem?_mapIdx,Option.map_eq_some_iff] at hi
  obtain ⟨x,hx,rfl⟩:=hi
  have h:=hg.2 x (List.mem_of_getElem? hx)
  unfold jH
  split
  ·obtain ⟨k1,k2⟩:=xQ (f:=if (i:Int)=f.1 then f.2 else 0) (t:=if (i:Int)=t.1 then t.2+1 else ((dV g:Nat):Int)) h.2 hp
   exact ⟨k2.trans h.1,k1⟩
  ·exact h
theorem Gb {g:aw} {R C:Nat} {f t:Int×Int} {p:PenT} (hg:gok g R C) (hs:szR R C) (hp:aJ p=true):dP f t p g=some (pM g f t p):=by
 have hm:=wo hg hs
 have hlen:g.length=R:=hg.1
 have hsz:=hs
 unfold szR at hsz
 obtain ⟨b,hb1,hb2,hb3⟩:=ol hg (i:=0) (by omega)
 unfold dP pM
 rw [nd,mf (by omega),hm]
 simp only [dm,hp,Option.bind_some,Bool.not_true,cond_false,nd,aM]
 rw [vC (by omega) (fun l hl=>by have:=(hg.2 l hl).1;omega)]
 simp only [Option.bind_some,GW hb1]
 have eC:((bif !iP g f then some true else bif !iP g t then some true else some false:Option Bool))=some (!(iP g f&&iP g t)):=by
  cases iP g f <;> cases iP g t <;> rfl
 rw [eC]
 simp only [Option.bind_some]
 cases hpl:(iP g f&&iP g t) with
 | false=>simp only [Bool.not_false,cond_true,cond_false]
 | true=>
  simp only [Bool.not_true,cond_true,cond_false]
  simp only [iP,Bool.and_eq_true,decide_eq_true_eq] at hpl
  obtain ⟨⟨f1,f2,f3,f4⟩,t1,t2,t3,t4⟩:=hpl
  have hw:=lz hg hs
  rw [hw] at f4 t4 ⊢
  obtain ⟨fr,fc⟩:=f
  obtain ⟨tr,tc⟩:=t
  simp only at f1 f2 f3 f4 t1 t2 t3 t4 ⊢
  obtain ⟨F,rfl⟩:∃k:Nat,fr=k:=⟨fr.toNat,by omega⟩
  obtain ⟨T,rfl⟩:∃k:Nat,tr=k:=⟨tr.toNat,by omega⟩
  have hin:∀(k:Nat) (x:aw),k<T+1->x.length=R->(∀i:Nat,0+k<=i->x[i]?=g[i]?)->bn ((T:Int),tc) g ((F:Int),fc) g p ((k:Int),x)=some (.inr (((k+1:Nat):Int),match (g[k]?).map (fun l=>lP l (if (k:Int)=(F:Int) then fc else 0) (if (k:Int)=(T:Int) then tc+1 else (C:Int)) p) with | some v=>x.set (k+0) v | none=>x)):=fun k x hk hx hold=>by
   obtain ⟨l,hl1,hl2,hl3⟩:=ol hg (i:=k) (by omega)
   have hxk:x[k]?=some l:=by rw [hold k (by omega)];exact hl1
   unfold bn
   simp only
   rw [aG (by omega:(k:Int)<=(T:Int))]
   simp only [Option.bind_some,cond_true,Int.toNat_natCast]
   rw [ae (by omega),show (0:Int).toNat=0 from rfl,hb1]
   simp only [Option.bind_some,hb2]
   have ea:((bif (k:Int)==(F:Int) then some true else some false:Option Bool).bind fun x27=>bif x27 then some fc else some 0)=some (if (k:Int)=(F:Int) then fc else 0):=by
    by_cases e:(k:Int)=(F:Int)
    ·simp [e]
    ·have:((k:Int)==(F:Int))=false:=by simpa using e
     rw [this,if_neg e];rfl
   have eb:((bif (k:Int)==(T:Int) then some true else some false:Option Bool).bind fun x30=>bif x30 then some (i64.wrap (tc+1)) else some ((C:Nat):Int))=some (if (k:Int)=(T:Int) then tc+1 else (C:Int)):=by
    by_cases e:(k:Int)=(T:Int)
    ·rw [if_pos e,e]
     simp only [beq_self_eq_true,cond_true,Option.bind_some]
     rw [aD (by omega)]
    ·have:((k:Int)==(T:Int))=false:=by simpa using e
     rw [this,if_neg e];rfl
   rw [ea,eb]
   simp only [Option.bind_some]
   rw [ae (by omega),hxk]
   simp only [Option.bind_some]
   rw [CN hl3 hp]
   simp only [Option.bind_some]
   rw [ae (by omega)]
   rw [hl1,aD (by omega)]
   simp only [Option.map_some]
   rfl
  have hend:∀x:aw,bn ((T:Int),tc) g ((F:Int),fc) g p (((T+1:Nat):Int),x)=some (.inl x):=fun x=>by
   unfold bn
   simp only
   rw [aU (by omega:¬((T+1:Nat):Int)<=(T:Int))];rfl
  by_cases hFT:F<=T+1
  ·obtain ⟨g',h1,h2,h3⟩:=pC (step:=bn ((T:Int),tc) g ((F:Int),fc) g p) (n:=T+1) (off:=0) (N:=R) (u:=fun k=>(g[k]?).map (fun l=>lP l (if (k:Int)=(F:Int) then fc else 0) (if (k:Int)=(T:Int) then tc+1 else (C:Int)) p)) (g0:=g) (fun k x hk hx hold=>(hin k x hk hx hold).trans (by cases g[k]? <;> rfl)) hend (T+1-F) F g (by omega) hlen (fun _ _=>rfl)
   rw [h1]
   simp only [Option.bind_some]
   have:g'=g.mapIdx (jH C ((F:Int),fc) ((T:Int),tc) p):=by
    refine List.ext_getElem? fun i=>?_
    rw [List.getElem?_mapIdx]
    by_cases hi:i<R
    ·rw [h3 i hi]
     obtain ⟨l,hl1,_,_⟩:=ol hg hi
     by_cases hc:0+F<=i/\i<0+(T+1)
     ·rw [if_pos hc,show i-0=i from rfl,hl1]
      have:jH C ((F:Int),fc) ((T:Int),tc) p i l=lP l (if (i:Int)=(F:Int) then fc else 0) (if (i:Int)=(T:Int) then tc+1 else (C:Int)) p:=by
       unfold jH
       rw [if_pos (by simp only;omega)]
      simp only [Option.map_some,this]
     ·rw [if_neg hc,hl1]
      have:jH C ((F:Int),fc) ((T:Int),tc) p i l=l:=by
       unfold jH
       rw [if_neg (by simp only;omega)]
      simp [this]
    ·rw [List.getElem?_eq_none (by omega),List.getElem?_eq_none (by omega)];rfl
   rw [this,ae (by simp)]
  ·rw [aL]
   have:bn ((T:Int),tc) g ((F:Int),fc) g p ((F:Int),g)=some (.inl g):=by
    unfold bn
    simp only
    rw [aU (by omega:¬(F:Int)<=(T:Int))];rfl
   rw [this]
   simp only [Option.bind_some]
   have:g.mapIdx (jH C ((F:Int),fc) ((T:Int),tc) p)=g:=by
    refine List.ext_getElem? fun i=>?_
    rw [List.getElem?_mapIdx]
    cases g[i]? with
    | none=>rfl
    | some l=>
     simp only [Option.map_some]
     unfold jH
     rw [if_neg (by simp only;omega)]
   rw [this];exact aM
def fitG (g:aw) (R C gone:Nat):aw:=(List.range R).map fun i=>match g[gone+i]? with
 | some l=>fitM l C
 | none=>bz C (0,0,0)
theorem pX:fy=gC:=rfl
theorem Ce {g:aw} {R C R' C' gone:Nat} (hg:gok g R C) (hs:szR R' C'):gok (fitG g R' C' gone) R' C':=by
 unfold szR at hs
 refine Hl (by simp [fitG]) fun i l hi=>?_
 unfold fitG at hi
 rw [List.getElem?_map] at hi
 obtain ⟨k,hk,rfl⟩:=Option.map_eq_some_iff.1 hi
 cases hx:g[gone+k]? with
 | none=>exact ⟨bk _ _,bb.2 ⟨by rw [bk];omega,iT (by decide) _⟩⟩
 | some x=>
  have h:=hg.2 x (List.mem_of_getElem? hx)
  obtain ⟨k1,k2⟩:=Hs (n:=C') h.2 (by omega)
  exact ⟨k2,k1⟩
theorem Fa {g:aw} {R C R' C' gone:Nat} (hg:gok g R C) (hs:szR R C) (hs':szR R' C') (hgo:gone<=R):gW (R':Int) (C':Int) (gone:Int) g=some (fitG g R' C' gone):=by
 have hm:=wo hg hs
 have hlen:g.length=R:=hg.1
 have hsz:=hs
 have hsz':=hs'
 unfold szR at hsz hsz'
 unfold gW
 rw [nd,mf (by omega),hm]
 simp only [oe,Option.bind_some,Bool.not_true,cond_false]
 rw [aG (by omega:1<=(R':Int)/\(R':Int)<=200),aG (by omega:1<=(C':Int)/\(C':Int)<=200),aU (by omega:¬(gone:Int)<0),aU (by omega:¬(gone:Int)>((g.length:Nat):Int))]
 simp only [Bool.not_true,cond_false,Option.bind_some]
 rw [pX,gb ⟨hsz'.1,hsz'.2.1⟩ ⟨hsz'.2.2.1,hsz'.2.2.2⟩ (by decide)]
 simp only [Option.bind_some]
 rw [ae (by omega)]
 have hbl:(dW R' C' (0,0,0)).length=R':=by simp [dW]
 obtain ⟨g',h1,h2,h3⟩:=pC (step:=dO g (gone:Int) (R':Int) (C':Int) (dW R' C' (0,0,0))) (n:=R-gone) (off:=0) (N:=R') (u:=fun k=>if k<R' then (g[gone+k]?).map (fun l=>fitM l C') else none) (g0:=dW R' C' (0,0,0))
  (fun k x hk hx hold=>by
   obtain ⟨l,hl1,hl2,hl3⟩:=ol hg (i:=gone+k) (by omega)
   unfold dO
   simp only [Int.toNat_natCast]
   rw [aG (by omega:(k:Int)<((g.length-gone:Nat):Int))]
   simp only [Option.bind_some,cond_true]
   rw [ae (by omega),show k+gone=gone+k from by omega,hl1]
   simp only [Option.bind_some]
   by_cases h:k<R'
   ·rw [aG (by omega:(k:Int)<(R':Int)),if_pos h]
    simp only [cond_true,Option.bind_some,Option.map_some]
    rw [KV hl3 (by omega)]
    simp only [Option.bind_some]
    rw [ae (by omega),List.getElem?_eq_getElem (by omega:k<x.length)]
    simp only [Option.bind_some]
    rw [aD (by omega)];rfl
   ·rw [aU (by omega:¬(k:Int)<(R':Int)),if_neg h]
    simp only [cond_false,Option.bind_some]
    rw [aD (by omega)];rfl)
  (fun x=>by
   unfold dO
   simp only [Int.toNat_natCast]
   rw [aU (by omega:¬((R-gone:Nat):Int)<((g.length-gone:Nat):Int))];rfl) (R-gone) 0 (dW R' C' (0,0,0)) (by omega) hbl (fun _ _=>rfl)
 have e:aH (dO g (gone:Int) (R':Int) (C':Int) (dW R' C' (0,0,0))) (0,dW R' C' (0,0,0))=some g':=h1
 rw [e]
 simp only [Option.bind_some]
 have:g'=fitG g R' C' gone:=by
  refine List.ext_getElem? fun i=>?_
  unfold fitG
  rw [List.getElem?_map]
  by_cases hi:i<R'
  ·rw [h3 i hi,List.getElem?_range hi]
   simp only [Option.map_some]
   by_cases hc:0+0<=i/\i<0+(R-gone)
   ·rw [if_pos hc,show i-0=i from rfl,if_pos hi]
    obtain ⟨l,hl1,hl2,hl3⟩:=ol hg (i:=gone+i) (by omega)
    rw [hl1];rfl
   ·rw [if_neg hc,List.getElem?_eq_none (by omega:g.length<=gone+i)]
    simp only [dW]
    rw [List.getElem?_replicate,if_pos hi]
  ·rw [List.getElem?_eq_none (by omega),List.getElem?_eq_none (by simp;omega)];rfl
 rw [this,ae (by rw [hbl];simp [fitG])]
end Go.SH
namespace Go.SH
open IntKind (i64 u64 i32 u8)
theorem bt (c:Bool):(bif c then some true else some false:Option Bool)=some c:=by cases c <;> rfl
theorem bt2 (a b:Bool):(bif a then some b else some false:Option Bool)=some (a&&b):=by cases a <;> cases b <;> rfl
def grp (n:Int):Bool×Int:=
 if 30<=n/\n<40 then (true,30) else if 40<=n/\n<50 then (true,40) else if 90<=n/\n<98 then (true,30) else if 100<=n/\n<108 then (true,40) else (false,0)
theorem An (n:Int):ne n=some ((grp n).2,(grp n).1):=by
 have key:ne n=bif decide (30<=n)&&decide (n<50) then some (i64.wrap ((i64.wrap (Int.tdiv n 10))*10),true) else
   bif (decide (90<=n)&&decide (n<98))||(decide (100<=n)&&decide (n<108)) then some (i64.wrap ((i64.wrap ((i64.wrap (Int.tdiv n 10))*10))-60),true) else some (0,false):=by
  unfold ne
  simp only [ge_iff_le]
  cases decide (30<=n) <;> cases decide (n<50) <;> cases decide (90<=n) <;> cases decide (n<98) <;> cases decide (100<=n) <;> cases decide (n<108) <;> rfl
 rw [key]
 unfold grp
 by_cases h1:30<=n/\n<50
 ·rw [aG h1.1,aG h1.2,Int.tdiv_eq_ediv_of_nonneg (by omega)]
  simp only [Bool.and_self,cond_true,w64]
  by_cases h2:n<40
  ·rw [if_pos ⟨h1.1,h2⟩];congr 2;omega
  ·rw [if_neg (by omega),if_pos (by omega)];congr 2;omega
 ·have e:(decide (30<=n)&&decide (n<50))=false:=by simp;omega
  rw [e,if_neg (by omega),if_neg (by omega)]
  simp only [cond_false]
  by_cases h2:90<=n/\n<98
  ·rw [aG h2.1,aG h2.2,if_pos h2,Int.tdiv_eq_ediv_of_nonneg (by omega)]
   simp only [Bool.and_self,Bool.true_or,cond_true,w64]
   congr 2;omega
  ·rw [if_neg h2]
   have e:(decide (90<=n)&&decide (n<98))=false:=by simp;omega
   rw [e]
   by_cases h3:100<=n/\n<108
   ·rw [aG h3.1,aG h3.2,if_pos h3,Int.tdiv_eq_ediv_of_nonneg (by omega)]
    simp only [Bool.and_self,Bool.or_true,cond_true,w64]
    congr 2;omega
   ·rw [if_neg h3]
    have e:(decide (100<=n)&&decide (n<108))=false:=by simp;omega
    rw [e];rfl
def bitv:Nat->Int
 | 0=>1 | 1=>2 | 2=>4 | 3=>8 | 4=>16 | 6=>32 | 7=>64 | 8=>128 | _=>0
theorem yE:∀i:_root_.Fin 9,jS (i.val:Int)=some (bitv i.val):=by decide +kernel
theorem sG (i:Nat) (h:i<=8):jS (i:Int)=some (bitv i):=yE ⟨i,by omega⟩
def isB (x:Int):Bool:=decide (0<=x)&&decide (x<=255)
theorem AT {l:List Int} {i:Nat} {x:Int} (h:l[i]?=some x) (hb:l.length<9223372036854775807):cT l (i:Int)=some (bif isB x then .inr ((i+1:Nat):Int) else .inl (.inl ())):=by
 have hlt:i<l.length:=(List.getElem?_eq_some_iff.1 h).1
 have e1:decide ((i:Int)<(l.length:Int))=true:=by simp;omega
 have e2:i64.wrap ((i:Int)+1)=((i+1:Nat):Int):=by rw [w64];omega
 simp only [cT,e1,cond_true,bo,h,Option.bind_some,e2,isB]
 by_cases h1:x<0
 ·have:¬0<=x:=by omega
  simp [h1,this]
 ·by_cases h2:x>255
  ·have:¬x<=255:=by omega
   simp [h1,h2,this]
  ·have h3:x<=255:=by omega
   have h4:0<=x:=by omega
   simp [h1,h2,h3,h4]
theorem Cx (l:List Int):cT l (l.length:Int)=some (.inl (.inr ())):=by simp [cT]
theorem AU (l:List Int):∀(m i:Nat),l.length-i=m->i<=l.length->l.length<9223372036854775807->aH (cT l) (i:Int)=some (bif (l.drop i).all isB then .inr () else .inl ()):=by
 intro m
 induction m with
 | zero=>
  intro i hm hi hb
  have:i=l.length:=by omega
  subst this
  rw [aL,Cx]
  simp
 | succ m ih=>
  intro i hm hi hb
  have hlt:i<l.length:=by omega
  have ih':=ih (i+1) (by omega) (by omega) hb
  rw [aL,AT (List.getElem?_eq_getElem hlt) hb,List.drop_eq_getElem_cons hlt,List.all_cons]
  cases isB l[i] with
  | false=>rfl
  | true=>exact ih'
theorem iH (l:List Int) (hb:l.length<9223372036854775807):dC l=some (l.all isB):=by
 unfold dC
 have:=AU l _ 0 rfl (Nat.zero_le _) hb
 simp only [Int.natCast_zero] at this
 rw [this]
 simp only [Option.bind_some,List.drop_zero]
 cases l.all isB <;> rfl
def colS:List Int->Int×Int
 | x::y::r=>bif decide (x=5)&&isB y then (2,1+y) else match r with
  | z::w::_=>bif decide (x=2)&&(isB y&&isB z&&isB w) then (4,17+36*(6*y / 256)+6*(6*z / 256)+6*w / 256) else (0,0)
  | _=>(0,0)
 | _=>(0,0)
theorem qS {x:Int} (h:isB x=true):0<=x/\x<=255:=by simpa [isB] using h
theorem Jm {y z w:Int} (hy:isB y=true) (hz:isB z=true) (hw:isB w=true) :
  i64.wrap ((i64.wrap ((i64.wrap (17+(i64.wrap (36*(i64.wrap (Int.tdiv (i64.wrap (6*y)) 256))))))+(i64.wrap (6*(i64.wrap (Int.tdiv (i64.wrap (6*z)) 256))))))+(i64.wrap (Int.tdiv (i64.wrap (6*w)) 256))) =
   17+36*(6*y / 256)+6*(6*z / 256)+6*w / 256:=by
 have h1:=qS hy;have h2:=qS hz;have h3:=qS hw
 have e1:∀x:Int,0<=x->x<=255->i64.wrap (Int.tdiv (i64.wrap (6*x)) 256)=6*x / 256:=by
  intro x a b
  have:i64.wrap (6*x)=6*x:=by rw [w64];omega
  rw [this,Int.tdiv_eq_ediv_of_nonneg (by omega),w64];omega
 rw [e1 y h1.1 h1.2,e1 z h2.1 h2.2,e1 w h3.1 h3.2]
 have a1:0<=6*y / 256/\6*y / 256<=5:=by omega
 have a2:0<=6*z / 256/\6*z / 256<=5:=by omega
 have a3:0<=6*w / 256/\6*w / 256<=5:=by omega
 simp only [w64]
 omega
theorem yD (l:List Int) (hb:l.length<9223372036854775807):nZ l=some ((colS l).2,(colS l).1):=by
 have g0:∀(k:Int) (n:Nat),k=n->getI l k=l[n]?:=fun k n h=>by subst h;exact bo l n
 unfold nZ
 rw [g0 0 0 rfl,g0 1 1 rfl,g0 2 2 rfl,g0 3 3 rfl]
 match l,hb with
 | [],_=>rfl
 | [x],_=>rfl
 | [x,y],hb=>
  have p1:dC [y]=some (isB y):=by rw [iH [y] (by simp)];simp
  simp only [colS,List.length_cons,List.length_nil]
  by_cases hx:x=5
  ·subst hx
   cases hy:isB y with
   | false=>simp [hy,p1]
   | true=>
    have:=qS hy
    have e:i64.wrap (1+y)=1+y:=by rw [w64];omega
    simp [hy,e,p1]
  ·have hx':(x==5)=false:=by simpa using hx
   simp [hx,hx']
 | [x,y,z],hb=>
  have p1:dC [y]=some (isB y):=by rw [iH [y] (by simp)];simp
  simp only [colS,List.length_cons,List.length_nil]
  by_cases hx:x=5
  ·subst hx
   cases hy:isB y with
   | false=>simp [hy,p1]
   | true=>
    have:=qS hy
    have e:i64.wrap (1+y)=1+y:=by rw [w64];omega
    simp [hy,e,p1]
  ·have hx':(x==5)=false:=by simpa using hx
   simp [hx,hx']
 | x::y::z::w::r,hb=>
  have hl:decide (((x::y::z::w::r).length:Int)>=2)=true:=by simp;omega
  have hl4:decide (((x::y::z::w::r).length:Int)>=4)=true:=by simp;omega
  have hs:sub (x::y::z::w::r) 1 4=[y,z,w]:=rfl
  have hq:(0<=(1:Int)/\(1:Int)<=(4:Int)/\(4:Int)<=(((x::y::z::w::r).length:Nat):Int)):=by simp;omega
  have p1:dC [y]=some (isB y):=by rw [iH [y] (by simp)];simp
  have p3:dC [y,z,w]=some (isB y&&isB z&&isB w):=by rw [iH [y,z,w] (by simp)];simp [Bool.and_assoc]
  rw [hl,hl4,ae hq,hs,p3]
  simp only [colS,cond_true,p1,List.getElem?_cons_zero,List.getElem?_cons_succ,Option.bind_some,List.all_cons,List.all_nil,Bool.and_true]
  by_cases hx:x=5
  ·subst hx
   cases hy:isB y with
   | false=>simp
   | true=>
    have:=qS hy
    have e:i64.wrap (1+y)=1+y:=by rw [w64];omega
    simp [e]
  ·by_cases hx2:x=2
   ·subst hx2
    cases hy:isB y <;> cases hz:isB z <;> cases hw:isB w <;> first | (simp;done) | skip
    simp [Jm hy hz hw]
   ·have hx':(x==5)=false:=by simpa using hx
    have hx2':(x==2)=false:=by simpa using hx2
    simp [hx,hx2,hx',hx2']
abbrev T3:=Int×Int×Int
def lE (base c:Int) (p:T3):T3:=bif base==30 then (p.1,c,p.2.2) else (p.1,p.2.1,c)
def act (p:T3) (n:Int) (rest:List Int):Option (T3×Int):=
 bif n==0 then some ((0,0,0),0)
 else bif decide (1<=n)&&decide (n<=9) then some ((aj .or .i64 p.1 (bitv (n-1).toNat),p.2.1,p.2.2),0)
 else bif n==22 then some ((aj .andNot .i64 p.1 3,p.2.1,p.2.2),0)
 else bif decide (23<=n)&&decide (n<=29) then some ((aj .andNot .i64 p.1 (bitv (n-21).toNat),p.2.1,p.2.2),0)
 else bif (grp n).1&&(n==(grp n).2+8) then (bif (colS rest).1==0 then none else some (lE (grp n).2 (colS rest).2 p,(colS rest).1))
 else bif (grp n).1&&(n==(grp n).2+9) then some (lE (grp n).2 0 p,0)
 else bif (grp n).1&&decide (n<90) then some (lE (grp n).2 (n-(grp n).2+1) p,0)
 else bif (grp n).1 then some (lE (grp n).2 (n-(grp n).2-60+9) p,0)
 else some (p,0)
theorem GY (base c:Int) (p:T3):cM base c p.2.1 p.2.2=some ((lE base c p).2.1,(lE base c p).2.2):=by
 unfold cM lE
 cases base==30 <;> rfl
theorem uq (base c b f k:Int):(b,(lE base c (b,f,k)).2.1,(lE base c (b,f,k)).2.2)=lE base c (b,f,k):=by unfold lE;cases base==30 <;> rfl
theorem J0 (n:Int):((grp n).2=0\/(grp n).2=30\/(grp n).2=40)/\((grp n).1=true->30<=n/\n<108):=by
 unfold grp;split
 ·simp;omega
 ·split
  ·simp;omega
  ·split
   ·simp;omega
   ·split
    ·simp;omega
    ·simp
theorem Iv {α:Type} (l:List α) (a:Nat):sub l a l.length=l.drop a:=by
 unfold sub;rw [List.take_of_length_le (by simp)]
theorem D3 {l:List Int} {i:Nat} {n:Int} (p:T3) (h:l[i]?=some n) (hb:l.length<4611686018427387904):dZ l ((i:Int),p.1,p.2.1,p.2.2) =
  some (match act p n (l.drop (i+1)) with | none=>.inl (.inl (p.1,p.2.1,p.2.2,p)) | some (q,t)=>.inr (i64.wrap (i64.wrap (i+t)+1),q)):=by
 obtain ⟨b,f,k⟩:=p
 have hlt:i<l.length:=(List.getElem?_eq_some_iff.1 h).1
 have e1:decide ((i:Int)<(l.length:Int))=true:=by simp;omega
 have e2:i64.wrap ((i:Int)+1)=((i+1:Nat):Int):=by rw [w64];omega
 have e0:i64.wrap ((i:Int)+0)=(i:Int):=by rw [w64];omega
 obtain ⟨g1,g2⟩:=J0 n
 have e8:i64.wrap ((grp n).2+8)=(grp n).2+8:=by rw [w64];omega
 have e9:i64.wrap ((grp n).2+9)=(grp n).2+9:=by rw [w64];omega
 have hc:=yD (l.drop (i+1)) (by simp;omega)
 have hq:0<=((i+1:Nat):Int)/\((i+1:Nat):Int)<=((l.length:Nat):Int)/\((l.length:Nat):Int)<=((l.length:Nat):Int):=by omega
 have ht:((i+1:Nat):Int).toNat=i+1:=rfl
 have pe:∀(base c f' k':Int),cM base c f' k'=some ((lE base c (b,f',k')).2.1,(lE base c (b,f',k')).2.2):=fun base c f' k'=>GY base c (b,f',k')
 unfold dZ
 simp only [e1,cond_true,bo,h,Option.bind_some,An,e2,e8,e9,ht,Iv,hc,bt,bt2,Bool.and_true,pe,ge_iff_le]
 rw [ae hq]
 have e2':i64.wrap ((i:Int)+1)=(i:Int)+1:=by rw [w64];omega
 have e0':i64.wrap (i:Int)=(i:Int):=by rw [w64];omega
 clear e2 e0 e1 hq ht hc pe
 unfold act
 by_cases h0:n=0
 ·subst h0;simp [e0',e2']
 have h0':(n==0)=false:=by simpa using h0
 simp only [h0',cond_false]
 by_cases h1:1<=n/\n<=9
 ·have eb:jS (i64.wrap (n-1))=some (bitv (n-1).toNat):=by
   have:i64.wrap (n-1)=((n-1).toNat:Int):=by rw [w64];omega
   rw [this,sG _ (by omega)]
  simp [h1.1,h1.2,eb,e0',e2']
 have h1':∀(i1:Decidable (1<=n)) (i2:Decidable (n<=9)),(@decide (1<=n) i1&&@decide (n<=9) i2)=false:=by intro i1 i2;simp;omega
 simp only [h1',cond_false]
 by_cases h2:n=22
 ·subst h2;simp [e0',e2']
 have h2':(n==22)=false:=by simpa using h2
 simp only [h2',cond_false]
 by_cases h3:23<=n/\n<=29
 ·have eb:jS (i64.wrap (n-21))=some (bitv (n-21).toNat):=by
   have:i64.wrap (n-21)=((n-21).toNat:Int):=by rw [w64];omega
   rw [this,sG _ (by omega)]
  simp [h3.1,h3.2,eb,e0',e2']
 have h3':∀(i1:Decidable (23<=n)) (i2:Decidable (n<=29)),(@decide (23<=n) i1&&@decide (n<=29) i2)=false:=by intro i1 i2;simp;omega
 simp only [h3',cond_false]
 cases hg:(grp n).1 with
 | false=>simp [e0',e2']
 | true=>
  obtain ⟨g3,g4⟩:=g2 hg
  have ea:i64.wrap ((i64.wrap (n-(grp n).2))+1)=n-(grp n).2+1:=by simp only [w64];omega
  have ec:i64.wrap ((i64.wrap ((i64.wrap (n-(grp n).2))-60))+9)=n-(grp n).2-60+9:=by simp only [w64];omega
  simp only [cond_true,Option.bind_some,Bool.true_and,ea,ec]
  cases h8:n==(grp n).2+8 with
  | true=>
   simp only [cond_true]
   cases h9:(colS (l.drop (i+1))).1==0 <;> simp [h9,uq]
  | false=>
   simp only [cond_false]
   cases h9:n==(grp n).2+9 with
   | true=>simp [e0',e2',uq]
   | false=>
    simp only [cond_false]
    cases h10:decide (n<90) <;> simp [e0',e2',uq]
theorem KH (l:List Int):(colS l).1=0\/(colS l).1=2\/(colS l).1=4:=by
 match l with
 | []=>simp [colS]
 | [x]=>simp [colS]
 | [x,y]=>simp only [colS];cases decide (x=5)&&isB y <;> simp
 | [x,y,z]=>simp only [colS];cases decide (x=5)&&isB y <;> simp
 | x::y::z::w::r=>simp only [colS];cases decide (x=5)&&isB y <;> cases decide (x=2)&&(isB y&&isB z&&isB w) <;> simp
theorem LY {p:T3} {n:Int} {rest:List Int} {q:T3} {t:Int} (h:act p n rest=some (q,t)):t=0\/t=2\/t=4:=by
 have hc:=KH rest
 unfold act at h
 simp only [Bool.cond_eq_ite] at h
 repeat' split at h
 all_goals first | (simp at h;done) | (simp only [Option.some.injEq,Prod.mk.injEq] at h;obtain ⟨_,rfl⟩:=h;first | exact .inl rfl | exact hc)
def oB (p:T3):List Int->T3
 | []=>p
 | n::rest=>match act p n rest with
  | none=>p
  | some (q,t)=>oB q (rest.drop t.toNat)
 termination_by l=>l.length
 decreasing_by simp;omega
theorem zO (l:List Int) (i:Nat) (hi:l.length<=i) (p:T3):dZ l ((i:Int),p.1,p.2.1,p.2.2)=some (.inl (.inr p)):=by
 have e:decide ((i:Int)<(l.length:Int))=false:=by simp;omega
 unfold dZ
 simp only [e];rfl
def mrgA:(Int×Int×Int×Int×Int×Int)⊕T3->T3
 | .inl a=>a.2.2.2
 | .inr a=>a
theorem D4 (l:List Int) (hb:l.length<4611686018427387904):∀(m i:Nat) (p:T3),l.length-i<=m->i<=l.length+4 ->
  ∃z,aH (dZ l) ((i:Int),p.1,p.2.1,p.2.2)=some z/\mrgA z=oB p (l.drop i):=by
 intro m
 induction m with
 | zero=>
  intro i p hm hi
  refine ⟨.inr p,?_,?_⟩
  ·rw [aL,zO l i (by omega) p]
  ·rw [List.drop_eq_nil_of_le (by omega)];simp [mrgA,oB]
 | succ m ih=>
  intro i p hm hi
  by_cases hlt:i<l.length
  ·have hs:=D3 p (List.getElem?_eq_getElem hlt) hb
   have hd:=List.drop_eq_getElem_cons hlt
   rw [aL,hs,hd,oB]
   cases ha:act p l[i] (l.drop (i+1)) with
   | none=>exact ⟨_,rfl,rfl⟩
   | some qt=>
    obtain ⟨q,t⟩:=qt
    have ht:=LY ha
    have e:i64.wrap (i64.wrap ((i:Int)+t)+1)=((i+1+t.toNat:Nat):Int):=by simp only [w64];omega
    obtain ⟨z,h1,h2⟩:=ih (i+1+t.toNat) q (by omega) (by omega)
    refine ⟨z,?_,?_⟩
    ·simp only [e];exact h1
    ·rw [h2];simp only [List.drop_drop]
  ·refine ⟨.inr p,?_,?_⟩
   ·rw [aL,zO l i (by omega) p]
   ·rw [List.drop_eq_nil_of_le (by omega)];simp [mrgA,oB]
def uW (p:PenT) (l:List Int):PenT:=bif l.isEmpty then (0,0,0) else oB p l
theorem Ig {p:PenT} (hp:aJ p=true) {l:List Int} (hb:l.length<4611686018427387904):nf p l=some (uW p l):=by
 unfold nf w9 uW
 obtain ⟨z,h1,h2⟩:=D4 l hb l.length 0 p (by omega) (by omega)
 simp only [dm,hp,Option.bind_some,Bool.not_true,cond_false,bt]
 cases l with
 | nil=>rfl
 | cons n r=>
  have e:(((n::r).length:Int)==0)=false:=by simp;omega
  simp only [e,cond_false,List.isEmpty_cons]
  simp only [Int.natCast_zero,List.drop_zero] at h1 h2
  rw [h1,<-h2]
  cases z <;> rfl
theorem Kr:∀b:_root_.Fin 256,∀i:_root_.Fin 9,(decide (0<=aj .or .i64 b.val (bitv i.val))&&decide (aj .or .i64 b.val (bitv i.val)<=255))=true:=by decide +kernel
theorem Jn:∀b:_root_.Fin 256,∀i:_root_.Fin 9,(decide (0<=aj .andNot .i64 b.val (bitv i.val))&&decide (aj .andNot .i64 b.val (bitv i.val)<=255))=true:=by decide +kernel
theorem HV:∀b:_root_.Fin 256,(decide (0<=aj .andNot .i64 b.val 3)&&decide (aj .andNot .i64 b.val 3<=255))=true:=by decide +kernel
theorem or_r {b:Int} (hb:0<=b/\b<=255) {i:Nat} (hi:i<9):0<=aj .or .i64 b (bitv i)/\aj .or .i64 b (bitv i)<=255:=by
 obtain ⟨m,rfl⟩:∃m:Nat,b=(m:Int):=⟨b.toNat,by omega⟩
 have:=Kr ⟨m,by omega⟩ ⟨i,hi⟩
 simpa using this
theorem LU {b:Int} (hb:0<=b/\b<=255) {i:Nat} (hi:i<9):0<=aj .andNot .i64 b (bitv i)/\aj .andNot .i64 b (bitv i)<=255:=by
 obtain ⟨m,rfl⟩:∃m:Nat,b=(m:Int):=⟨b.toNat,by omega⟩
 have:=Jn ⟨m,by omega⟩ ⟨i,hi⟩
 simpa using this
theorem KJ {b:Int} (hb:0<=b/\b<=255):0<=aj .andNot .i64 b 3/\aj .andNot .i64 b 3<=255:=by
 obtain ⟨m,rfl⟩:∃m:Nat,b=(m:Int):=⟨b.toNat,by omega⟩
 have:=HV ⟨m,by omega⟩
 simpa using this
theorem lI {p:PenT}:aJ p=true<->(0<=p.1/\p.1<=255)/\(0<=p.2.1/\p.2.1<=256)/\(0<=p.2.2/\p.2.2<=256):=by
 simp only [aJ,Bool.and_eq_true,decide_eq_true_eq]
theorem qb {b c:Int} {p:PenT} (h:aJ p=true) (hc:0<=c/\c<=256):aJ (lE b c p)=true:=by
 rw [lI] at h ⊢
 unfold lE;cases b==30
 ·exact ⟨h.1,h.2.1,hc⟩
 ·exact ⟨h.1,hc,h.2.2⟩
theorem KI (l:List Int):0<=(colS l).2/\(colS l).2<=256:=by
 have f5:∀y:Int,isB y=true->0<=6*y / 256/\6*y / 256<=5:=fun y h=>by have:=qS h;omega
 match l with
 | []=>simp [colS]
 | [x]=>simp [colS]
 | [x,y]=>
  simp only [colS]
  cases hh:decide (x=5)&&isB y with
  | false=>simp
  | true=>simp only [Bool.and_eq_true] at hh;have:=qS hh.2;simp only [cond_true];omega
 | [x,y,z]=>
  simp only [colS]
  cases hh:decide (x=5)&&isB y with
  | false=>simp
  | true=>simp only [Bool.and_eq_true] at hh;have:=qS hh.2;simp only [cond_true];omega
 | x::y::z::w::r=>
  simp only [colS]
  cases hh:decide (x=5)&&isB y with
  | true=>simp only [Bool.and_eq_true] at hh;have:=qS hh.2;simp only [cond_true];omega
  | false=>
   simp only [cond_false]
   cases h2:decide (x=2)&&(isB y&&isB z&&isB w) with
   | false=>simp
   | true=>
    simp only [Bool.and_eq_true] at h2
    have a1:=f5 y h2.2.1.1;have a2:=f5 z h2.2.1.2;have a3:=f5 w h2.2.2
    simp only [cond_true];omega
theorem Jw {p q:PenT} {n t:Int} {rest:List Int} (hp:aJ p=true) (h:act p n rest=some (q,t)):aJ q=true:=by
 have hr:=lI.1 hp
 have hc:=KI rest
 obtain ⟨g1,g2⟩:=J0 n
 have gd:(grp n).1=true->(n-(grp n).2+1<=256/\0<=n-(grp n).2+1\/True):=fun _=>.inr trivial
 unfold act at h
 cases h0:n==0 with
 | true=>rw [h0] at h;simp at h;rw [<-h.1];decide
 | false=>
 rw [h0] at h;simp only [cond_false] at h
 cases h1:decide (1<=n)&&decide (n<=9) with
 | true=>
  rw [h1] at h;simp only [cond_true,Option.some.injEq,Prod.mk.injEq] at h
  simp only [Bool.and_eq_true,decide_eq_true_eq] at h1
  rw [<-h.1];exact lI.2 ⟨or_r hr.1 (by omega),hr.2⟩
 | false=>
 rw [h1] at h;simp only [cond_false] at h
 cases h2:n==22 with
 | true=>rw [h2] at h;simp only [cond_true,Option.some.injEq,Prod.mk.injEq] at h;rw [<-h.1];exact lI.2 ⟨KJ hr.1,hr.2⟩
 | false=>
 rw [h2] at h;simp only [cond_false] at h
 cases h3:decide (23<=n)&&decide (n<=29) with
 | true=>
  rw [h3] at h;simp only [cond_true,Option.some.injEq,Prod.mk.injEq] at h
  simp only [Bool.and_eq_true,decide_eq_true_eq] at h3
  rw [<-h.1];exact lI.2 ⟨LU hr.1 (by omega),hr.2⟩
 | false=>
 rw [h3] at h;simp only [cond_false] at h
 cases hg:(grp n).1 with
 | false=>
  rw [hg] at h;simp only [Bool.false_and,cond_false,Option.some.injEq,Prod.mk.injEq] at h
  rw [<-h.1];exact hp
 | true=>
 rw [hg] at h;simp only [Bool.true_and] at h
 have hgr:((grp n).2=30/\(30<=n/\n<40\/90<=n/\n<98))\/((grp n).2=40/\(40<=n/\n<50\/100<=n/\n<108)):=by
  unfold grp at hg ⊢
  split
  ·rename_i h;exact .inl ⟨rfl,.inl h⟩
  ·split
   ·rename_i h;exact .inr ⟨rfl,.inl h⟩
   ·split
    ·rename_i h;exact .inl ⟨rfl,.inr h⟩
    ·split
     ·rename_i h;exact .inr ⟨rfl,.inr h⟩
     ·rename_i a b c d
      rw [if_neg a,if_neg b,if_neg c,if_neg d] at hg;simp at hg
 cases h8:n==(grp n).2+8 with
 | true=>
  rw [h8] at h;simp only [cond_true] at h
  cases h9:(colS rest).1==0 with
  | true=>rw [h9] at h;simp at h
  | false=>
   rw [h9] at h;simp only [cond_false,Option.some.injEq,Prod.mk.injEq] at h
   rw [<-h.1];exact qb hp hc
 | false=>
 rw [h8] at h;simp only [cond_false] at h
 cases h9:n==(grp n).2+9 with
 | true=>
  rw [h9] at h;simp only [cond_true,Option.some.injEq,Prod.mk.injEq] at h
  rw [<-h.1];exact qb hp (by omega)
 | false=>
 rw [h9] at h;simp only [cond_false] at h
 cases h10:decide (n<90) with
 | true=>
  rw [h10] at h;simp only [cond_true,Option.some.injEq,Prod.mk.injEq,decide_eq_true_eq] at h h10
  rw [<-h.1];exact qb hp (by omega)
 | false=>
  rw [h10] at h;simp only [cond_true,cond_false,Option.some.injEq,Prod.mk.injEq,decide_eq_false_iff_not] at h h10
  rw [<-h.1];exact qb hp (by omega)
theorem yj:∀(m:Nat) (l:List Int) (p:PenT),l.length<=m->aJ p=true->aJ (oB p l)=true
 | _,[],p,_,hp=>by rw [oB];exact hp
 | 0,_::_,p,h,_=>by simp at h
 | m+1,n::rest,p,h,hp=>by
  rw [oB]
  cases ha:act p n rest with
  | none=>exact hp
  | some qt=>
   obtain ⟨q,t⟩:=qt
   exact yj m _ q (by simp at h ⊢;omega) (Jw hp ha)
theorem D5 {p:PenT} (hp:aJ p=true) (l:List Int):aJ (uW p l)=true:=by
 unfold uW
 cases l.isEmpty with
 | true=>show aJ (0,0,0)=true;decide
 | false=>exact yj l.length l p (Nat.le_refl _) hp
end Go.SH
namespace Go.SH
open IntKind (i64 u64 i32 u8)
abbrev TabT:=Int×Int×Int×Int
def u64R (w:Int):Prop:=0<=w/\w<18446744073709551616
def eG (t:TabT):Prop:=u64R t.1/\u64R t.2.1/\u64R t.2.2.1/\u64R t.2.2.2
theorem Gr (x:Int):u64.wrap x=x % 18446744073709551616:=by simp [IntKind.wrap,IntKind.signed,IntKind.bits]
theorem Eh (x:Int):u64R (u64.wrap x):=by rw [Gr];unfold u64R;omega
theorem kH (op:BinOp) (x y:Int):u64R (aj op .u64 x y):=Eh _
theorem Ep (a:Int):mV a=some (decide (0<=a)&&decide (a<200)):=by
 unfold mV
 rw [show decide (a>=0)=decide (0<=a) from rfl]
 cases decide (0<=a) <;> rfl
theorem J2 {a:Int} (h:0<=a/\a<200):(i64.wrap (Int.tdiv a 64)=0\/i64.wrap (Int.tdiv a 64)=1\/i64.wrap (Int.tdiv a 64)=2\/i64.wrap (Int.tdiv a 64)=3)/\0<=Int.tmod a 64:=by
 rw [Int.tdiv_eq_ediv_of_nonneg h.1,w64,Int.tmod_eq_emod_of_nonneg h.1]
 omega
theorem jZ {a b c d:Int} (h1:u64R a) (h2:u64R b) (h3:u64R c) (h4:u64R d):eG (a,b,c,d):=⟨h1,h2,h3,h4⟩
theorem H6 {t:TabT} (ht:eG t) (a:Int):∃t',kq t a=some t'/\eG t':=by
 obtain ⟨h1,h2,h3,h4⟩:=ht
 unfold kq
 simp only [Ep,Option.bind_some,bt]
 cases hs:(decide (0<=a)&&decide (a<200)) with
 | false=>exact ⟨_,rfl,jZ h1 h2 h3 h4⟩
 | true=>
  simp only [Bool.and_eq_true,decide_eq_true_eq] at hs
  obtain ⟨hd,hm⟩:=J2 hs
  rcases hd with hd | hd | hd | hd <;> rw [hd] <;> simp only [beq_self_eq_true,cond_true,cond_false,Int.reduceBEq] <;> rw [ae hm]
  ·exact ⟨_,rfl,jZ (kH _ _ _) h2 h3 h4⟩
  ·exact ⟨_,rfl,jZ h1 (kH _ _ _) h3 h4⟩
  ·exact ⟨_,rfl,jZ h1 h2 (kH _ _ _) h4⟩
  ·exact ⟨_,rfl,jZ h1 h2 h3 (kH _ _ _)⟩
theorem If {t:TabT} (ht:eG t) (a:Int):∃t',jO t a=some t'/\eG t':=by
 obtain ⟨h1,h2,h3,h4⟩:=ht
 unfold jO
 simp only [Ep,Option.bind_some,bt]
 cases hs:(decide (0<=a)&&decide (a<200)) with
 | false=>exact ⟨_,rfl,jZ h1 h2 h3 h4⟩
 | true=>
  simp only [Bool.and_eq_true,decide_eq_true_eq] at hs
  obtain ⟨hd,hm⟩:=J2 hs
  rcases hd with hd | hd | hd | hd <;> rw [hd] <;> simp only [beq_self_eq_true,cond_true,cond_false,Int.reduceBEq] <;> rw [ae hm]
  ·exact ⟨_,rfl,jZ (kH _ _ _) h2 h3 h4⟩
  ·exact ⟨_,rfl,jZ h1 (kH _ _ _) h3 h4⟩
  ·exact ⟨_,rfl,jZ h1 h2 (kH _ _ _) h4⟩
  ·exact ⟨_,rfl,jZ h1 h2 h3 (kH _ _ _)⟩
theorem sa (to from':Int):∀(m:Nat) (a:Int) (t:TabT),200-a<=m->0<=a->eG t->∃t',aH (cv to from') (a,t.1,t.2.1,t.2.2.1,t.2.2.2)=some t'/\eG t'
 | m,a,t,hm,ha,ht=>by
  by_cases h:a<(if (200:Int)<to then (200:Int) else to)
  ·have h2:a<200:=by
    have:(if (200:Int)<to then (200:Int) else to)<=200:=by split <;> omega
    omega
   cases m with
   | zero=>omega
   | succ m=>
    have hw:i64.wrap (a+8)=a+8:=aD (by omega)
    by_cases hf:a>=from'
    ·obtain ⟨t',e1,e2⟩:=H6 ht a
     have hs:cv to from' (a,t.1,t.2.1,t.2.2.1,t.2.2.2)=some (.inr (a+8,t'.1,t'.2.1,t'.2.2.1,t'.2.2.2)):=by
      have e1':kq (t.1,t.2.1,t.2.2.1,t.2.2.2) a=some t':=e1
      unfold cv
      simp only [bt,Option.bind_some]
      rw [aG h,aG hf]
      simp only [cond_true,e1',Option.bind_some,hw]
     rw [aL,hs]
     exact sa to from' m (a+8) t' (by omega) (by omega) e2
    ·have hs:cv to from' (a,t.1,t.2.1,t.2.2.1,t.2.2.2)=some (.inr (a+8,t.1,t.2.1,t.2.2.1,t.2.2.2)):=by
      unfold cv
      simp only [bt,Option.bind_some]
      rw [aG h,aU hf]
      simp only [cond_true,cond_false,Option.bind_some,hw]
     rw [aL,hs]
     exact sa to from' m (a+8) t (by omega) (by omega) ht
  ·have hs:cv to from' (a,t.1,t.2.1,t.2.2.1,t.2.2.2)=some (.inl (t.1,t.2.1,t.2.2.1,t.2.2.2)):=by
    unfold cv
    simp only [bt,Option.bind_some]
    rw [aU h]
    simp only [cond_false]
   rw [aL,hs]
   exact ⟨t,rfl,ht⟩
theorem CG {t:TabT} (ht:eG t) (from' to:Int):∃t',gh t from' to=some t'/\eG t':=by
 obtain ⟨t',h1,h2⟩:=sa to from' 200 8 t (by omega) (by omega) ht
 unfold gh
 rw [h1]
 exact ⟨t',rfl,h2⟩
theorem yW:eG (0,0,0,0):=by unfold eG u64R;simp
theorem Gu {n:Nat} (h:n<=200):eG (sk n):=by
 have:=mq h
 unfold gi at this
 obtain ⟨t',h1,h2⟩:=CG yW 0 (n:Int)
 rw [h1] at this
 simp at this
 rw [<-this];exact h2
theorem LM:(2:Int)^58=288230376151711744:=by decide +kernel
theorem KB {x:Int} (r1:0<=x) (r2:x<18446744073709551616):0<=Int.fdiv x (2^58)/\Int.fdiv x (2^58)<64:=by
 rw [LM,Int.fdiv_eq_ediv_of_nonneg _ (by omega)];omega
theorem HU:kr.length=64:=by decide +kernel
def tzV (x:Int):Option Int:=(getI kr (Int.fdiv x (2^58))).bind fun x4=>some (i64.wrap (x4.toNat:Int))
theorem Kf {x:Int} (h:u64R x):∃z,tzV x=some z/\0<=z/\z<=300:=by
 obtain ⟨r1,r2⟩:=h
 have hd:=KB r1 r2
 unfold tzV
 generalize Int.fdiv x (2^58)=y at *
 obtain ⟨k,hk⟩:∃k:Nat,y=k:=⟨y.toNat,by omega⟩
 subst hk
 rw [bo]
 have hl:k<kr.length:=by rw [HU];omega
 rw [List.getElem?_eq_getElem hl]
 generalize kr[k]=u
 have hb:u.toNat<256:=u.toNat_lt
 refine ⟨_,rfl,?_⟩
 rw [aD (by omega)];omega
def tzA (w:Int):Int:=aj .and .u64 w (u64.wrap ((0:Int)-w))
def tzX (w:Int):Int:=u64.wrap (tzA w*285870213051353865)
theorem K3 (w:Int):u64R (tzX w):=Eh _
theorem K2 (w:Int):cz w=(bif w==0 then some true else some false:Option Bool).bind fun x1=>bif x1 then some 64 else tzV (tzX w):=rfl
theorem K1 {w:Int} (h:u64R w):∃z,cz w=some z/\0<=z/\z<=300:=by
 obtain ⟨z,h1,h2⟩:=Kf (K3 w)
 rw [K2,bt,h1]
 cases (w==0) with
 | true=>exact ⟨64,rfl,by omega,by omega⟩
 | false=>exact ⟨z,rfl,h2⟩
theorem Kt {n:Nat} (h0:0<n) (h:n<18446744073709551616):Bt (n:Int)=((n &&& (n-1):Nat):Int):=by
 unfold Bt aj
 have e1:u64.wrap ((n:Int)-1)=((n-1:Nat):Int):=by rw [Gr];omega
 rw [e1]
 have hb:IntKind.u64.bits=64:=rfl
 have f:∀m:Nat,m<18446744073709551616->(BitVec.ofInt IntKind.u64.bits (m:Int)).toNat=m:=fun m hm=>by
  rw [hb,BitVec.toNat_ofInt];omega
 simp only [BitVec.toNat_and]
 rw [f n h,f (n-1) (by omega),Gr]
 have:n &&& (n-1)<=n:=Nat.and_le_left
 omega
theorem Ju {n j:Nat} (h:2^j ∣ n) (h0:0<n):2^(j+1) ∣ (n &&& (n-1)):=by
 obtain ⟨m,rfl⟩:=h
 refine Nat.dvd_of_mod_eq_zero (Nat.eq_of_testBit_eq fun i=>?_)
 rw [Nat.testBit_mod_two_pow,Nat.zero_testBit]
 by_cases hi:i<j+1
 ·simp only [hi,decide_true,Bool.true_and,Nat.testBit_and]
  by_cases h2:i<j
  ·rw [Nat.testBit_two_pow_mul]
   simp [Nat.not_le.2 h2]
  ·have:i=j:=by omega
   subst this
   rw [Nat.testBit_two_pow_mul]
   simp only [ge_iff_le,Nat.le_refl,decide_true,Bool.true_and,Nat.sub_self,Nat.testBit_zero]
   by_cases hm:m % 2=1
   ·obtain ⟨q,rfl⟩:∃q,m=2*q+1:=⟨m / 2,by omega⟩
    have hp:0<2^i:=Nat.two_pow_pos i
    have e:2^i*(2*q+1)-1=2^i*(2*q)+(2^i-1):=by rw [Nat.mul_add,Nat.mul_one];omega
    rw [e,Nat.testBit_two_pow_mul_add _ (by omega)]
    simp
   ·simp [hm]
 ·simp [hi]
theorem wR (ws:List Int) (hws:ws.length=4) (hr:∀w∈ws,u64R w):∀(k i j:Nat) (w:Int),i<=3->u64R w->(∃n:Nat,w=n/\2^j ∣ n)->(65-j)+(3-i)*66<=k->j<=64 ->
  ∃l,mr cz Bu Bt ws k i w=some l/\∀x∈l,0<=x/\x<200
 | 0,i,j,w,hi,hw,_,hk,hj=>by omega
 | k+1,i,j,w,hi,hw,hwn,hk,hj=>by
  obtain ⟨n,rfl,hd⟩:=hwn
  unfold mr
  by_cases h0:(n:Int)=0
  ·rw [if_pos h0]
   cases he:ws[i+1]? with
   | none=>exact ⟨[],rfl,by simp⟩
   | some w'=>
    have hi2:i+1<4:=by rw [<-hws];exact (List.getElem?_eq_some_iff.1 he).1
    have hw':=hr w' (List.mem_of_getElem? he)
    have hw2:=hw'
    unfold u64R at hw2
    exact wR ws hws hr k (i+1) 0 w' (by omega) hw' ⟨w'.toNat,by omega,by simp⟩ (by omega) (by omega)
  ·rw [if_neg h0]
   have hn:0<n:=by omega
   have hw2:=hw
   unfold u64R at hw2
   have hj2:j<64:=by
    rcases Nat.lt_or_ge j 64 with h | h
    ·exact h
    ·have:j=64:=by omega
     subst this
     have:=Nat.le_of_dvd hn hd
     have e:(2:Nat)^64=18446744073709551616:=by decide
     omega
   obtain ⟨z,hz,hz1,hz2⟩:=K1 hw
   rw [hz]
   simp only [Option.bind_some]
   have hat:Bu (i:Int) z=64*(i:Int)+z:=by
    unfold Bu
    rw [aD (x:=64*(i:Int)) (by omega),aD (by omega)]
   rw [hat]
   by_cases h2:200<=64*(i:Int)+z
   ·rw [if_pos h2];exact ⟨[],rfl,by simp⟩
   ·rw [if_neg h2,Kt hn (by omega)]
    have hle:n &&& (n-1)<=n:=Nat.and_le_left
    obtain ⟨l,h3,h4⟩:=wR ws hws hr k i (j+1) ((n &&& (n-1):Nat):Int) hi (by unfold u64R;omega) ⟨_,rfl,Ju hd hn⟩ (by omega) (by omega)
    rw [h3]
    refine ⟨_,rfl,fun x hx=>?_⟩
    rcases List.mem_cons.1 hx with rfl | hx
    ·omega
    ·exact h4 x hx
theorem vd {t:TabT} (ht:eG t):∃l,lC t=some l/\∀x∈l,0<=x/\x<200:=by
 obtain ⟨h1,h2,h3,h4⟩:=ht
 unfold lC outF
 simp only [List.getElem?_cons_zero]
 have hw2:=h1
 unfold u64R at hw2
 exact wR [t.1,t.2.1,t.2.2.1,t.2.2.2] rfl (by simp;exact ⟨h1,h2,h3,h4⟩) 300 0 0 t.1 (by omega) h1 ⟨t.1.toNat,by omega,by simp⟩ (by omega) (by omega)
theorem Jy {t:TabT} (ht:eG t) {a c:Int} (ha:0<=a) (hc:1<=c/\c<=200):∃x,mW t a c=some x/\0<=x/\x<c:=by
 obtain ⟨l,h1,h2⟩:=vd ht
 unfold mW
 rw [h1]
 refine ⟨_,rfl,?_⟩
 have hcc:aR c=c:=by
  unfold aR
  rw [if_neg (by omega:¬(200:Int)<c)]
  simp only
  split <;> omega
 rw [hcc]
 have key:∀(l:List Int) (r s:Int) (o:Option (Option Nat)),runX (lZ a c) r l=(s,o)->(o=none\/(a<s/\s<c)):=by
  intro l
  induction l with
  | nil=>intro r s o h;simp [runX] at h;exact .inl h.2.symm
  | cons x l ih=>
   intro r s o h
   simp only [runX] at h
   by_cases hx:a<x/\x<c
   ·have e:lZ a c r x=(x,some none):=if_pos hx
    rw [e] at h;simp at h;rw [<-h.1];exact .inr hx
   ·have e:lZ a c r x=(r,none):=if_neg hx
    rw [e] at h;exact ih _ _ _ h
 unfold xi G3
 cases hr:runX (lZ a c) 0 l with
 | mk s o=>
  cases o with
  | none=>simp only;rw [aD (by omega)];omega
  | some k=>
   rcases key l 0 s (some k) hr with h | h
   ·simp at h
   ·simp only;omega
theorem JC {t:TabT} (ht:eG t) {a:Int} (ha:0<=a):∃x,mX t a=some x/\0<=x/\x<=a:=by
 obtain ⟨l,h1,h2⟩:=vd ht
 unfold mX
 rw [h1]
 refine ⟨_,rfl,?_⟩
 have key:∀(l:List Int) (r:Int),(∀x∈l,0<=x/\x<200)->0<=r/\r<=a->0<=(runX (oQ a) r l).1/\(runX (oQ a) r l).1<=a:=by
  intro l
  induction l with
  | nil=>intro r _ hr;exact hr
  | cons x l ih=>
   intro r hl hr
   simp only [runX]
   by_cases hx:a<=x
   ·have e:oQ a r x=(r,some (some 0)):=if_pos hx
    rw [e];exact hr
   ·have e:oQ a r x=(x,none):=if_neg hx
    rw [e]
    exact ih x (fun y hy=>hl y (List.mem_cons_of_mem _ hy)) ⟨(hl x (by simp)).1,by omega⟩
 exact key l 0 h2 ⟨by omega,ha⟩
end Go.SH
namespace Go.SH
open IntKind (i64 u64 i32 u8)
theorem bto (a b:Bool):(bif a then some true else some b:Option Bool)=some (a||b):=by cases a <;> cases b <;> rfl
theorem btor (a b:Bool):(bif a then some a else some b:Option Bool)=some (a||b):=by cases a <;> cases b <;> rfl
theorem EV {α:Type} (a:Bool) (x y:α):(bif a then some x else some y)=some (bif a then x else y):=by cases a <;> rfl
theorem rleq {α R:Type} (l:List α) (k:Option R):req (l.length=l.length) k=k:=ae rfl
structure EnvS (R C:Nat) (top bottom:Int) (p:PenT):Prop where
 sz:szR R C
 etop:0<=top
 etb:top<=bottom
 ebot:bottom<R
 epen:aJ p=true
def scrM (g:aw) (f bottom n:Int) (p:PenT):aw:=sy g f.toNat bottom.toNat n p
theorem Ai {R C:Nat} {bottom f n:Int} {p:PenT} {g:aw} (hs:szR R C) (hp:aJ p=true) (hb:bottom<R) (hg:gok g R C) (h1:0<=f) (h2:f<=bottom) (hn:-1000000<=n/\n<=1000000) :
  bu f n p.1 p.2.1 p.2.2 bottom g=some (scrM g f bottom n p)/\gok (scrM g f bottom n p) R C:=by
 obtain ⟨F,rfl⟩:∃k:Nat,f=k:=⟨f.toNat,by omega⟩
 obtain ⟨B,rfl⟩:∃k:Nat,bottom=k:=⟨bottom.toNat,by omega⟩
 unfold scrM
 simp only [Int.toNat_natCast]
 refine ⟨?_,BD hg hs hp (by omega) (by omega)⟩
 unfold bu
 rw [nd]
 have:=F7 hg hs hp (T:=F) (B:=B) (n:=n) (by omega) (by omega) hn
 obtain ⟨pb,pf,pk⟩:=p
 rw [this]
 simp only [Option.bind_some,aM]
def tF (R:Int) (row top bottom:Int) (p:PenT) (g:aw):aw×Int:=
 if row=bottom then (scrM g top bottom 1 p,row) else (g,if R-1<row+1 then R-1 else row+1)
theorem ww {R C:Nat} {row top bottom:Int} {p:PenT} {g:aw} (e:EnvS R C top bottom p) (hg:gok g R C) (hr:0<=row/\row<R) (m:aw) (ti:List Int) :
  bl (R:Int) row p.1 p.2.1 p.2.2 top bottom g m ti=some (tF R row top bottom p g)/\gok (tF R row top bottom p g).1 R C/\0<=(tF R row top bottom p g).2/\(tF R row top bottom p g).2<R:=by
 have hs:=e.sz
 unfold szR at hs
 have e1:i64.wrap ((R:Int)-1)=(R:Int)-1:=aD (by omega)
 have e2:i64.wrap (row+1)=row+1:=aD (by omega)
 unfold bl tF
 simp only [bt,Option.bind_some,e1,e2]
 by_cases h:row=bottom
 ·subst h
  obtain ⟨h1,h2⟩:=Ai e.sz e.epen e.ebot hg e.etop e.etb (n:=1) (by omega)
  simp only [beq_self_eq_true,cond_true,if_true,rleq,aM]
  rw [h1]
  simp only [Option.bind_some,rleq,aM]
  exact ⟨trivial,h2,hr⟩
 ·have:(row==bottom)=false:=by simpa using h
  rw [this,if_neg h]
  simp only [cond_false,rleq,aM]
  refine ⟨trivial,hg,?_⟩
  split <;> omega
def xO (R top bottom:Int) (p:PenT):Nat->aw×Int->aw×Int
 | 0,x=>x
 | k+1,x=>xO R top bottom p k (tF R x.2 top bottom p x.1)
theorem zB {R C:Nat} {top bottom:Int} {p:PenT} (e:EnvS R C top bottom p) (m:aw) (ti:List Int) {ch:ChT} (hn:ch.2.1<=1000):∀(k:Nat) (i:Int) (g:aw) (row:Int),ch.2.1-i<=k->(k:Int)<=ch.2.1-i\/k=0->0<=i->gok g R C->0<=row/\row<R ->
  aH (bg ch ti m (R:Int) p.1 p.2.1 p.2.2 top bottom) (i,g,row)=some (xO R top bottom p k (g,row))/\gok (xO R top bottom p k (g,row)).1 R C/\0<=(xO R top bottom p k (g,row)).2/\(xO R top bottom p k (g,row)).2<R
 | 0,i,g,row,h1,h2,hi,hg,hr=>by
  rw [aL]
  have:bg ch ti m (R:Int) p.1 p.2.1 p.2.2 top bottom (i,g,row)=some (.inl (g,row)):=by
   unfold bg
   simp only [bt,Option.bind_some]
   rw [aU (by omega:¬i<ch.2.1)]
   simp only [cond_false,rleq,aM]
  rw [this]
  exact ⟨rfl,hg,hr⟩
 | k+1,i,g,row,h1,h2,hi,hg,hr=>by
  rw [aL]
  obtain ⟨f1,f2,f3⟩:=ww e hg hr m ti
  have:bg ch ti m (R:Int) p.1 p.2.1 p.2.2 top bottom (i,g,row)=some (.inr (i+1,tF R row top bottom p g)):=by
   unfold bg
   simp only [bt,Option.bind_some]
   rw [aG (by omega:i<ch.2.1)]
   simp only [cond_true,rleq,aM]
   rw [f1]
   simp only [Option.bind_some,rleq,aM]
   rw [aD (by omega)]
  rw [this]
  exact zB e m ti hn k (i+1) _ _ (by omega) (by omega) (by omega) f2 f3
theorem lS {n lo hi:Int} (h:lo<=hi):lo<=betw n lo hi/\betw n lo hi<=hi:=by
 unfold betw
 split <;> split <;> omega
def wm (modes:Int):Bool:=aj .and .i64 modes 2 !=0
def kX (modes:Int):Bool:=aj .and .i64 modes 1 !=0
def insB (modes:Int):Bool:=aj .and .i64 modes 4 !=0
def lh (row col R C top bottom modes:Int):Int×Int:=(bif wm modes then betw (top+row) top bottom else betw row 0 (R-1),betw col 0 (C-1))
theorem tj {R C:Nat} {row col top bottom:Int} (hs:szR R C) (ht:0<=top) (htb:top<=bottom) (hb:bottom<R) (hr:-1000000<=row/\row<=1000000) (modes:Int) :
  bN row col (R:Int) (C:Int) top bottom modes=some (lh row col R C top bottom modes)/\(0<=(lh row col R C top bottom modes).1/\(lh row col R C top bottom modes).1<R)/\0<=(lh row col R C top bottom modes).2/\(lh row col R C top bottom modes).2<C:=by
 unfold szR at hs
 refine ⟨?_,?_,?_⟩
 ·unfold bN lh
  rw [aD (x:=top+row) (by omega),aD (x:=(R:Int)-1) (by omega),aD (x:=(C:Int)-1) (by omega)]
  simp only [bt,Option.bind_some,jX]
  unfold wm
  cases (aj .and .i64 modes 2 !=0) <;> rfl
 ·unfold lh
  cases wm modes with
  | true=>have:=lS (n:=top+row) htb;simp only [cond_true];omega
  | false=>have:=lS (n:=row) (lo:=0) (hi:=(R:Int)-1) (by omega);simp only [cond_false];omega
 ·have:=lS (n:=col) (lo:=0) (hi:=(C:Int)-1) (by omega)
  unfold lh;simp only;omega
def qO (rows cols R C row col top bottom:Int):Int×Int:=
 (if 0<rows then (if (if row<=bottom then bottom else R-1)<row+rows then (if row<=bottom then bottom else R-1) else row+rows)
  else if rows<0 then (if (if top<=row then top else 0)>row+rows then (if top<=row then top else 0) else row+rows) else row,betw (col+cols) 0 (C-1))
theorem Ix {R C:Nat} {rows cols row col top bottom:Int} (hs:szR R C) (ht:0<=top) (htb:top<=bottom) (hb:bottom<R) (hn:-1000000<=rows/\rows<=1000000) (hm:-1000000<=cols/\cols<=1000000) (hr:0<=row/\row<R) (hc:0<=col/\col<C) :
  ed rows cols (R:Int) (C:Int) row col top bottom=some (qO rows cols R C row col top bottom)/\(0<=(qO rows cols R C row col top bottom).1/\(qO rows cols R C row col top bottom).1<R)/\0<=(qO rows cols R C row col top bottom).2/\(qO rows cols R C row col top bottom).2<C:=by
 unfold szR at hs
 refine ⟨?_,?_,?_⟩
 ·unfold ed qO
  rw [aD (x:=row+rows) (by omega),aD (x:=(R:Int)-1) (by omega),aD (x:=(C:Int)-1) (by omega),aD (x:=col+cols) (by omega)]
  simp only [bt,Option.bind_some,jX,ge_iff_le,gt_iff_lt,EV]
  by_cases h1:top<=row <;> by_cases h2:row<=bottom <;> by_cases h3:0<rows <;> by_cases h4:rows<0 <;> simp [h1,h2,h3,h4]
 ·unfold qO
  simp only
  split
  ·split <;> split <;> omega
  ·split
   ·split <;> split <;> omega
   ·omega
 ·have:=lS (n:=col+cols) (lo:=0) (hi:=(C:Int)-1) (by omega)
  unfold qO;simp only;omega
def vn (t:TabT) (C:Int):Nat->Int->Int
 | 0,c=>c
 | k+1,c=>vn t C k ((mW t c C).getD 0)
def vG (t:TabT):Nat->Int->Int
 | 0,c=>c
 | k+1,c=>vG t k ((mX t c).getD 0)
theorem zk {C:Nat} {t:TabT} (ht:eG t) (hC:1<=C/\C<=200) {ch:ChT} (hn:ch.2.1<=1000):∀(k:Nat) (i col:Int),ch.2.1-i<=k->(k:Int)<=ch.2.1-i\/k=0->0<=i->0<=col/\col<C ->
  aH (bf ch t.1 t.2.1 t.2.2.1 t.2.2.2 (C:Int)) (i,col)=some (vn t C k col)/\0<=vn t C k col/\vn t C k col<C
 | 0,i,col,h1,h2,hi,hc=>by
  rw [aL]
  have:bf ch t.1 t.2.1 t.2.2.1 t.2.2.2 (C:Int) (i,col)=some (.inl col):=by
   unfold bf
   simp only [bt,Option.bind_some]
   rw [aU (by omega:¬i<ch.2.1)]
   simp only [cond_false]
  rw [this]
  exact ⟨rfl,hc⟩
 | k+1,i,col,h1,h2,hi,hc=>by
  rw [aL]
  obtain ⟨x,hx,x1,x2⟩:=Jy ht (a:=col) (c:=(C:Int)) hc.1 (by omega)
  have:bf ch t.1 t.2.1 t.2.2.1 t.2.2.2 (C:Int) (i,col)=some (.inr (i+1,x)):=by
   unfold bf
   simp only [bt,Option.bind_some]
   rw [aG (by omega:i<ch.2.1)]
   simp only [cond_true]
   erw [hx]
   simp only [Option.bind_some]
   rw [aD (by omega)]
  rw [this]
  have hu:vn t C (k+1) col=vn t C k x:=by rw [vn,hx];rfl
  rw [hu]
  exact zk ht hC hn k (i+1) x (by omega) (by omega) (by omega) ⟨x1,x2⟩
theorem zN {t:TabT} (ht:eG t) {C:Nat} {ch:ChT} (hn:-1000<=ch.2.1/\ch.2.1<=1000):∀(k:Nat) (i col:Int),-ch.2.1-i<=k->(k:Int) <= -ch.2.1-i\/k=0->0<=i->0<=col/\col<C ->
  aH (bd ch t.1 t.2.1 t.2.2.1 t.2.2.2) (i,col)=some (vG t k col)/\0<=vG t k col/\vG t k col<C
 | 0,i,col,h1,h2,hi,hc=>by
  rw [aL]
  have:bd ch t.1 t.2.1 t.2.2.1 t.2.2.2 (i,col)=some (.inl col):=by
   unfold bd
   rw [aD (x:=0-ch.2.1) (by omega)]
   simp only [bt,Option.bind_some]
   rw [aU (by omega:¬i<0-ch.2.1)]
   simp only [cond_false]
  rw [this]
  exact ⟨rfl,hc⟩
 | k+1,i,col,h1,h2,hi,hc=>by
  rw [aL]
  obtain ⟨x,hx,x1,x2⟩:=JC ht (a:=col) hc.1
  have:bd ch t.1 t.2.1 t.2.2.1 t.2.2.2 (i,col)=some (.inr (i+1,x)):=by
   unfold bd
   rw [aD (x:=0-ch.2.1) (by omega)]
   simp only [bt,Option.bind_some]
   rw [aG (by omega:i<0-ch.2.1)]
   simp only [cond_true]
   erw [hx]
   simp only [Option.bind_some]
   rw [aD (by omega)]
  rw [this]
  have hu:vG t (k+1) col=vG t k x:=by rw [vG,hx];rfl
  rw [hu]
  exact zN ht hn k (i+1) x (by omega) (by omega) (by omega) ⟨x1,by omega⟩
def rowG (g:aw) (row:Int):List aq:=(g[row.toNat]?).getD []
theorem pp {g:aw} {R C:Nat} (hg:gok g R C) {row:Int} (hr:0<=row/\row<R):g[row.toNat]?=some (rowG g row)/\(rowG g row).length=C/\aP (rowG g row)=true:=by
 obtain ⟨l,h1,h2⟩:=ol hg (i:=row.toNat) (by omega)
 unfold rowG
 rw [h1]
 exact ⟨rfl,h2⟩
def setR (g:aw) (row:Int) (l:List aq):aw:=g.set row.toNat l
theorem pm {g:aw} {R C:Nat} (hg:gok g R C) {row:Int} {l:List aq} (h:aP l=true/\l.length=C):gok (setR g row l) R C:=I7 hg ⟨h.2,h.1⟩
def n7 (b:Bool) (R top bottom:Int) (p:PenT) (x:aw×Int×Int):aw×Int×Int:=bif b then ((tF R x.2.1 top bottom p x.1).1,(tF R x.2.1 top bottom p x.1).2,0) else x
def rB (R C top bottom:Int) (wr:Bool) (p:PenT) (n:Int) (x:aw×Int×Int):aw×Int×Int:=
 bif decide (C-n<x.2.2) then (bif wr then n7 true R top bottom p x else (x.1,x.2.1,C-n)) else x
def ve (C:Int) (modes:Int) (p:PenT) (c n:Int) (x:aw×Int×Int):aw×Int×Int×Bool:=
 (setR x.1 x.2.1 (putM (bif insB modes then ga (rowG x.1 x.2.1) x.2.2 n p else rowG x.1 x.2.1) x.2.2 c p),x.2.1,bif decide (C<=x.2.2+n) then C-1 else x.2.2+n,bif decide (C<=x.2.2+n) then kX modes else false)
def kT (R C row col:Int) (late:Bool) (top bottom modes:Int) (p:PenT) (g:aw) (c:Int):aw×Int×Int×Bool:=
 bif decide (ax c<0)||decide (C<ax c) then (g,row,col,late)
 else bif ax c==0 then (setR g row (zl (rowG g row) (bif late then col else col-1) c),row,col,late)
 else ve C modes p c (ax c) (rB R C top bottom (kX modes) p (ax c) (n7 (late&&kX modes) R top bottom p (g,row,col)))
def inG (R C:Nat) (x:aw×Int×Int):Prop:=gok x.1 R C/\(0<=x.2.1/\x.2.1<R)/\0<=x.2.2/\x.2.2<C
theorem rH {R C:Nat} {top bottom:Int} {p:PenT} (e:EnvS R C top bottom p) {x:aw×Int×Int} (hx:inG R C x) (b:Bool):inG R C (n7 b R top bottom p x):=by
 have hs:=e.sz
 unfold szR at hs
 cases b with
 | false=>exact hx
 | true=>
  obtain ⟨h1,h2,h3⟩:=ww e hx.1 hx.2.1 [] []
  exact ⟨h2,h3,by unfold n7;simp only [cond_true];omega⟩
theorem zh {R C:Nat} {top bottom:Int} {p:PenT} (e:EnvS R C top bottom p) {x:aw×Int×Int} (hx:inG R C x) (wr:Bool) {n:Int} (hn:1<=n/\n<=C):inG R C (rB R C top bottom wr p n x)/\(rB R C top bottom wr p n x).2.2<=C-n:=by
 unfold rB
 by_cases h:(C:Int)-n<x.2.2
 ·rw [aG h]
  cases wr with
  | true=>
   refine ⟨rH e hx true,?_⟩
   unfold n7;simp only [cond_true];omega
  | false=>
   refine ⟨⟨hx.1,hx.2.1,?_⟩,?_⟩
   ·simp only [cond_true,cond_false];omega
   ·simp only [cond_true,cond_false];omega
 ·rw [aU h]
  refine ⟨hx,?_⟩
  simp only [cond_false];omega
theorem GJ {R C:Nat} {modes:Int} {p:PenT} (hp:aJ p=true) {x:aw×Int×Int} (hx:inG R C x) (c:Int) {n:Int} (hn:1<=n/\n<=C) (h:x.2.2<=C-n) :
  inG R C ((ve C modes p c n x).1,(ve C modes p c n x).2.1,(ve C modes p c n x).2.2.1)/\((ve C modes p c n x).2.2.2=true->(ve C modes p c n x).2.2.1=(C:Int)-1):=by
 obtain ⟨h1,h2,h3⟩:=hx
 obtain ⟨k1,k2,k3⟩:=pp h1 h2
 have hl:aP (bif insB modes then ga (rowG x.1 x.2.1) x.2.2 n p else rowG x.1 x.2.1)=true/\(bif insB modes then ga (rowG x.1 x.2.1) x.2.2 n p else rowG x.1 x.2.1).length=C:=by
  cases insB modes with
  | true=>exact ⟨(mc k3 hp).1,(mc k3 hp).2.trans k2⟩
  | false=>exact ⟨k3,k2⟩
 have hput:=GR (a:=x.2.2) (c:=c) hl.1 hp
 unfold ve
 refine ⟨⟨pm h1 ⟨hput.1,hput.2.trans hl.2⟩,h2,?_⟩,?_⟩
 ·by_cases h4:(C:Int)<=x.2.2+n
  ·rw [aG h4];simp only [cond_true];omega
  ·rw [aU h4];simp only [cond_false];omega
 ·by_cases h4:(C:Int)<=x.2.2+n
  ·rw [aG h4];intro _;rfl
  ·rw [aU h4];intro h5;simp at h5
theorem Fw {R C:Nat} {top bottom:Int} {p:PenT} (e:EnvS R C top bottom p) {g:aw} {row col:Int} {late:Bool} (hx:inG R C (g,row,col)) (hl:late=true->col=(C:Int)-1) (modes c:Int) :
  inG R C ((kT R C row col late top bottom modes p g c).1,(kT R C row col late top bottom modes p g c).2.1,(kT R C row col late top bottom modes p g c).2.2.1)/\((kT R C row col late top bottom modes p g c).2.2.2=true->(kT R C row col late top bottom modes p g c).2.2.1=(C:Int)-1):=by
 have hco:=tN c
 unfold kT
 cases h1:(decide (ax c<0)||decide ((C:Int)<ax c)) with
 | true=>exact ⟨hx,hl⟩
 | false=>
  simp only [Bool.or_eq_false_iff,decide_eq_false_iff_not] at h1
  simp only [cond_false]
  cases h2:(ax c==0) with
  | true=>
   obtain ⟨k1,k2,k3⟩:=pp hx.1 hx.2.1
   have hm:=FB (a:=bif late then col else col-1) (c:=c) k3
   exact ⟨⟨pm hx.1 ⟨hm.1,hm.2.trans k2⟩,hx.2⟩,hl⟩
  | false=>
   have h2':ax c≠0:=by simpa using h2
   simp only [cond_false]
   obtain ⟨q1,q2⟩:=zh e (rH e hx (late&&kX modes)) (kX modes) (n:=ax c) (by omega)
   exact GJ e.epen q1 c (by omega) q2
theorem GT {R C:Nat} {top bottom:Int} {p:PenT} (e:EnvS R C top bottom p) {g:aw} {row col:Int} {late:Bool} (hx:inG R C (g,row,col)) (modes c:Int) (m:aw) (ti:List Int) :
  dR c (R:Int) (C:Int) row col late p.1 p.2.1 p.2.2 top bottom modes g m ti=some (kT R C row col late top bottom modes p g c):=by
 have hco:=tN c
 have hs:=e.sz
 unfold szR at hs
 obtain ⟨k1,k2,k3⟩:=pp hx.1 hx.2.1
 have hgl:g.length=R:=hx.1.1
 have hrow:=hx.2.1
 have hcol:=hx.2.2
 simp only at k1 k2 k3 hrow hcol
 unfold dR kT
 simp only [bt]
 simp only [iS,Option.bind_some,bto,bt2,gt_iff_lt,Bool.and_true,Bool.or_false]
 rw [ae (by omega),k1]
 simp only [Option.bind_some]
 cases h1:(decide (ax c<0)||decide ((C:Int)<ax c)) with
 | true=>simp only [cond_true,rleq,aM]
 | false=>
  simp only [Bool.or_eq_false_iff,decide_eq_false_iff_not] at h1
  simp only [cond_false]
  cases h2:(ax c==0) with
  | true=>
   simp only [cond_true,EV,Option.bind_some]
   rw [aD (x:=col-1) (by omega),JA k3]
   simp only [Option.bind_some]
   rw [ae (by omega)]
   have e2:(bif !late then col-1 else col)=(bif late then col else col-1):=by cases late <;> rfl
   rw [e2,ae (by simp)]
   rfl
  | false=>
   have h2':ax c≠0:=by simpa using h2
   simp only [cond_false,rleq,aM]
   have ew:(aj .and .i64 modes 1 !=0)=kX modes:=rfl
   have ei:(aj .and .i64 modes 4 !=0)=insB modes:=rfl
   simp only [ew,ei]
   have s1:((bif late&&kX modes then (bl (R:Int) row p.1 p.2.1 p.2.2 top bottom g m ti).bind fun x13=>req (x13.1.length=x13.1.length) (some (x13.1,x13.2,(0:Int))) else some (g,row,col):Option (aw×Int×Int)))=some (n7 (late&&kX modes) R top bottom p (g,row,col)):=by
    cases (late&&kX modes) with
    | false=>rfl
    | true=>
     rw [(ww e hx.1 hx.2.1 m ti).1]
     simp only [cond_true,Option.bind_some,rleq,aM]
     rfl
   have ha:=rH e hx (late&&kX modes)
   simp only [rleq,aM] at s1
   rw [s1]
   simp only [Option.bind_some]
   generalize n7 (late&&kX modes) R top bottom p (g,row,col)=x at *
   rw [aD (x:=(C:Int)-ax c) (by omega)]
   have s2:((bif decide ((C:Int)-ax c<x.2.2) then bif kX modes then (bl (R:Int) x.2.1 p.1 p.2.1 p.2.2 top bottom x.1 m ti).bind fun x20=>some (x20.1,x20.2,(0:Int)) else some (x.1,x.2.1,(C:Int)-ax c) else some (x.1,x.2.1,x.2.2):Option (aw×Int×Int)))=some (rB R C top bottom (kX modes) p (ax c) x):=by
    unfold rB
    cases decide ((C:Int)-ax c<x.2.2) with
    | false=>rfl
    | true=>
     cases kX modes with
     | false=>rfl
     | true=>
      rw [(ww e ha.1 ha.2.1 m ti).1]
      rfl
   rw [s2]
   simp only [Option.bind_some]
   obtain ⟨hb,hb2⟩:=zh e ha (kX modes) (n:=ax c) (by omega)
   generalize rB R C top bottom (kX modes) p (ax c) x=y at *
   obtain ⟨j1,j2,j3⟩:=pp hb.1 hb.2.1
   have hyl:y.1.length=R:=hb.1.1
   obtain ⟨hy1,hy2,hy3⟩:=hb
   rw [ae (by omega),j1]
   simp only [Option.bind_some]
   have hins:(cN (rowG y.1 y.2.1) y.2.2 (ax c) (p.1,p.2.1,p.2.2))=some (ga (rowG y.1 y.2.1) y.2.2 (ax c) p):=zV j3 e.epen
   rw [hins]
   simp only [Option.bind_some,EV]
   have hl:aP (bif insB modes then ga (rowG y.1 y.2.1) y.2.2 (ax c) p else rowG y.1 y.2.1)=true:=by
    cases insB modes with
    | true=>exact (mc j3 e.epen).1
    | false=>exact j3
   have hput:(gU (bif insB modes then ga (rowG y.1 y.2.1) y.2.2 (ax c) p else rowG y.1 y.2.1) y.2.2 c (p.1,p.2.1,p.2.2))=some (putM (bif insB modes then ga (rowG y.1 y.2.1) y.2.2 (ax c) p else rowG y.1 y.2.1) y.2.2 c p):=KT hl e.epen
   rw [hput]
   simp only [Option.bind_some,ge_iff_le]
   rw [ae (by omega),aD (x:=y.2.2+ax c) (by omega),aD (x:=(C:Int)-1) (by omega),ae (by simp),ae (by simp)]
   unfold ve
   cases decide ((C:Int)<=y.2.2+ax c) <;> rfl
end Go.SH
namespace Go.SH
structure Sc where
 rows:Int
 cols:Int
 grid:aw
 main:aw
 row:Int
 col:Int
 late:Bool
 pen:PenT
 top:Int
 bottom:Int
 modes:Int
 sv0:tV
 sv1:tV
 tabs:TabT
 title:List Int
def Sc.t (s:Sc):ScrT:=(s.rows,s.cols,s.grid,s.main,s.row,s.col,s.late,s.pen,s.top,s.bottom,s.modes,(s.sv0,s.sv1),s.tabs,s.title)
def Sc.of (s:ScrT):Sc:=⟨s.1,s.2.1,s.2.2.1,s.2.2.2.1,s.2.2.2.2.1,s.2.2.2.2.2.1,s.2.2.2.2.2.2.1,s.2.2.2.2.2.2.2.1,s.2.2.2.2.2.2.2.2.1,s.2.2.2.2.2.2.2.2.2.1,s.2.2.2.2.2.2.2.2.2.2.1,s.2.2.2.2.2.2.2.2.2.2.2.1.1,s.2.2.2.2.2.2.2.2.2.2.2.1.2,s.2.2.2.2.2.2.2.2.2.2.2.2.1,s.2.2.2.2.2.2.2.2.2.2.2.2.2⟩
def Sc.f (s:Sc):zW:=(s.grid,s.main,s.title,s.rows,s.cols,s.row,s.col,s.late,s.pen.1,s.pen.2.1,s.pen.2.2,s.top,s.bottom,s.modes,
 s.sv0.1,s.sv0.2.1,s.sv0.2.2.1.1,s.sv0.2.2.1.2.1,s.sv0.2.2.1.2.2,s.sv0.2.2.2.1,s.sv0.2.2.2.2,
 s.sv1.1,s.sv1.2.1,s.sv1.2.2.1.1,s.sv1.2.2.1.2.1,s.sv1.2.2.1.2.2,s.sv1.2.2.2.1,s.sv1.2.2.2.2,s.tabs.1,s.tabs.2.1,s.tabs.2.2.1,s.tabs.2.2.2)
theorem Gv (s:Sc):Ac s.f=s.t:=rfl
def chgS (ch:ChT) (s:Sc):Option zW:=cH ch s.rows s.cols s.row s.col s.late s.pen.1 s.pen.2.1 s.pen.2.2 s.top s.bottom s.modes
 s.sv0.1 s.sv0.2.1 s.sv0.2.2.1.1 s.sv0.2.2.1.2.1 s.sv0.2.2.1.2.2 s.sv0.2.2.2.1 s.sv0.2.2.2.2
 s.sv1.1 s.sv1.2.1 s.sv1.2.2.1.1 s.sv1.2.2.1.2.1 s.sv1.2.2.1.2.2 s.sv1.2.2.2.1 s.sv1.2.2.2.2 s.tabs.1 s.tabs.2.1 s.tabs.2.2.1 s.tabs.2.2.2 s.grid s.main s.title
theorem KM (ch:ChT) (s:Sc):chgP ch s.t=chgS ch s:=rfl
structure OkS (s:Sc) (R C:Nat):Prop where
 hr:s.rows=R
 hc:s.cols=C
 sz:szR R C
 g:gok s.grid R C
 m:(ba s.modes=true/\gok s.main R C)\/(ba s.modes=false/\s.main=[])
 row:0<=s.row/\s.row<R
 col:0<=s.col/\s.col<C
 late:s.late=true->s.col=(C:Int)-1
 top:0<=s.top/\s.top<R
 bot:0<=s.bottom/\s.bottom<R
 tb:s.top<s.bottom\/R<=1
 md:0<=s.modes/\s.modes<=255
 pen:aJ s.pen=true
 s0:fF s.sv0=true
 s1:fF s.sv1=true
 ti:du s.title=true
 tabs:eG s.tabs
theorem OkS.env {s:Sc} {R C:Nat} (h:OkS s R C):EnvS R C s.top s.bottom s.pen:=⟨h.sz,h.top.1,by have:=h.tb;have:=h.top;have:=h.bot;omega,h.bot.2,h.pen⟩
theorem OkS.inG {s:Sc} {R C:Nat} (h:OkS s R C):inG R C (s.grid,s.row,s.col):=⟨h.g,h.row,h.col⟩
theorem OkS.may {s:Sc} {R C:Nat} (h:OkS s R C):rI s.t=true:=by
 have hg:jo s.grid s.rows s.cols=true:=wU.2 ⟨R,C,h.hr,h.hc,h.sz,h.g⟩
 have hsz:=h.sz
 unfold szR at hsz
 have h1:=h.row;have h2:=h.col;have h3:=h.top;have h4:=h.bot;have h5:=h.tb;have h6:=h.md;have h7:=h.late
 have hm:(ba s.modes==decide (0<s.main.length))=true/\(!ba s.modes||jo s.main s.rows s.cols)=true:=by
  rcases h.m with ⟨m1,m2⟩ | ⟨m1,m2⟩
  ·have:jo s.main s.rows s.cols=true:=wU.2 ⟨R,C,h.hr,h.hc,h.sz,m2⟩
   rw [m1,this,aG (by rw [m2.1];omega)]
   exact ⟨rfl,rfl⟩
  ·rw [m1,m2];exact ⟨rfl,rfl⟩
 have hr:=h.hr;have hc:=h.hc
 unfold rI Sc.t
 simp only [hg,hm.1,hm.2,h.pen,h.s0,h.s1,h.ti,Bool.and_self,Bool.true_and,Bool.and_true]
 rw [aG (by omega:0<=s.row/\s.row<s.rows),aG (by omega:0<=s.top/\s.top<s.rows),aG (by omega:0<=s.bottom/\s.bottom<s.rows),aG h2.1,aG (by omega:s.col<s.cols),aG h6.1,aG h6.2]
 have e1:(!s.late||decide (s.cols-1<=s.col))=true:=by
  cases hl:s.late with
  | false=>rfl
  | true=>have:=h7 hl;rw [aG (by omega)];rfl
 have e2:(!decide (s.bottom<=s.top)||decide (s.rows<=1))=true:=by
  rcases h5 with h5 | h5
  ·rw [aU (by omega)];rfl
  ·rw [aG (by omega:s.rows<=1)];simp
 rw [e1,e2];rfl
def oK (ch:ChT) (R C row col:Int) (late:Bool) (p:PenT) (top bottom modes:Int) (t:TabT) (g:aw):aw×Int×Int×Bool:=
 bif ch.1==2 then ((xO R top bottom p ch.2.1.toNat (g,row)).1,(xO R top bottom p ch.2.1.toNat (g,row)).2,col,late)
 else bif ch.1==3 then (bif row==top then (scrM g top bottom (-1) p,row,col,late) else (g,if row-1>0 then row-1 else 0,col,late))
 else bif ch.1==4 then (g,row,0,late)
 else bif ch.1==5 then (g,(lh ch.2.1 ch.2.2.1 R C top bottom modes).1,(lh ch.2.1 ch.2.2.1 R C top bottom modes).2,false)
 else bif ch.1==6 then (g,(qO ch.2.1 ch.2.2.1 R C row col top bottom).1,(qO ch.2.1 ch.2.2.1 R C row col top bottom).2,late)
 else bif ch.1==7 then (g,row,betw ch.2.1 0 (C-1),late)
 else bif ch.1==8 then (g,(lh ch.2.1 col R C top bottom modes).1,(lh ch.2.1 col R C top bottom modes).2,false)
 else bif ch.1==9 then (g,row,vG t (-ch.2.1).toNat (vn t C ch.2.1.toNat col),late)
 else (g,row,col,late)
theorem beqf {a b:Int} (h:(a==b)=true):a=b:=by simpa using h
theorem IY {R C:Nat} {ch:ChT} {row col:Int} {p:PenT} {top bottom:Int} {t:TabT} {g:aw} (e:EnvS R C top bottom p) (hx:inG R C (g,row,col)) (ht:eG t) (hn:ch.1≠20->ch.1≠27->(-1000<=ch.2.1/\ch.2.1<=1000) /\ -1000<=ch.2.2.1/\ch.2.2.1<=1000) (modes:Int) (m:aw) (ti:List Int) :
  ee ch (R:Int) (C:Int) row col false p.1 p.2.1 p.2.2 top bottom modes t.1 t.2.1 t.2.2.1 t.2.2.2 g m ti=some (oK ch R C row col false p top bottom modes t g) /\
  inG R C ((oK ch R C row col false p top bottom modes t g).1,(oK ch R C row col false p top bottom modes t g).2.1,(oK ch R C row col false p top bottom modes t g).2.2.1)/\(oK ch R C row col false p top bottom modes t g).2.2.2=false:=by
 have hs:=e.sz
 unfold szR at hs
 obtain ⟨hg,hr,hc⟩:=hx
 simp only at hg hr hc
 have hx:inG R C (g,row,col):=⟨hg,hr,hc⟩
 unfold ee oK
 simp only [bt,Option.bind_some,rleq,aM,jX]
 cases h2:(ch.1==2) with
 | true=>
  obtain ⟨⟨n1,n2⟩,n3⟩:=hn (by have:=beqf h2;omega) (by have:=beqf h2;omega)
  obtain ⟨l1,l2,l3⟩:=zB e m ti (ch:=ch) n2 ch.2.1.toNat 0 g row (by omega) (by omega) (by omega) hg hr
  simp only [cond_true]
  rw [l1]
  exact ⟨rfl,⟨l2,l3,hc⟩,by first | trivial | rfl⟩
 | false=>
 simp only [cond_false]
 cases h3:(ch.1==3) with
 | true=>
  simp only [cond_true]
  cases h31:(row==top) with
  | true=>
   obtain ⟨q1,q2⟩:=Ai e.sz e.epen e.ebot hg e.etop e.etb (n:=-1) (by omega)
   simp only [cond_true]
   rw [q1]
   exact ⟨rfl,⟨q2,hr,hc⟩,by first | trivial | rfl⟩
  | false=>
   simp only [cond_false]
   rw [aD (x:=row-1) (by omega)]
   refine ⟨rfl,⟨hg,?_,hc⟩,by first | trivial | rfl⟩
   simp only
   split <;> omega
 | false=>
 simp only [cond_false]
 cases h4:(ch.1==4) with
 | true=>exact ⟨rfl,⟨hg,hr,by simp only [cond_true];omega⟩,rfl⟩
 | false=>
 simp only [cond_false]
 cases h5:(ch.1==5) with
 | true=>
  obtain ⟨⟨n1,n2⟩,n3⟩:=hn (by have:=beqf h5;omega) (by have:=beqf h5;omega)
  obtain ⟨q1,q2,q3⟩:=tj (row:=ch.2.1) (col:=ch.2.2.1) e.sz e.etop e.etb e.ebot (by omega) modes
  simp only [cond_true]
  rw [q1]
  exact ⟨rfl,⟨hg,q2,q3⟩,by first | trivial | rfl⟩
 | false=>
 simp only [cond_false]
 cases h6:(ch.1==6) with
 | true=>
  obtain ⟨⟨n1,n2⟩,n3⟩:=hn (by have:=beqf h6;omega) (by have:=beqf h6;omega)
  obtain ⟨q1,q2,q3⟩:=Ix (rows:=ch.2.1) (cols:=ch.2.2.1) e.sz e.etop e.etb e.ebot (by omega) (by omega) hr hc
  simp only [cond_true]
  rw [q1]
  exact ⟨rfl,⟨hg,q2,q3⟩,by first | trivial | rfl⟩
 | false=>
 simp only [cond_false]
 cases h7:(ch.1==7) with
 | true=>
  have:=lS (n:=ch.2.1) (lo:=0) (hi:=(C:Int)-1) (by omega)
  simp only [cond_true]
  rw [aD (x:=(C:Int)-1) (by omega)]
  exact ⟨rfl,⟨hg,hr,by simp only;omega⟩,by first | trivial | rfl⟩
 | false=>
 simp only [cond_false]
 cases h8:(ch.1==8) with
 | true=>
  obtain ⟨⟨n1,n2⟩,n3⟩:=hn (by have:=beqf h8;omega) (by have:=beqf h8;omega)
  obtain ⟨q1,q2,q3⟩:=tj (row:=ch.2.1) (col:=col) e.sz e.etop e.etb e.ebot (by omega) modes
  simp only [cond_true]
  rw [q1]
  exact ⟨rfl,⟨hg,q2,q3⟩,by first | trivial | rfl⟩
 | false=>
 simp only [cond_false]
 cases h9:(ch.1==9) with
 | true=>
  obtain ⟨⟨n1,n2⟩,n3⟩:=hn (by have:=beqf h9;omega) (by have:=beqf h9;omega)
  obtain ⟨q1,q2⟩:=zk ht (C:=C) (by omega) (ch:=ch) n2 ch.2.1.toNat 0 col (by omega) (by omega) (by omega) hc
  obtain ⟨q3,q4⟩:=zN ht (C:=C) (ch:=ch) ⟨n1,n2⟩ (-ch.2.1).toNat 0 _ (by omega) (by omega) (by omega) q2
  simp only [cond_true]
  rw [q1]
  simp only [Option.bind_some]
  rw [q3]
  exact ⟨rfl,⟨hg,hr,q4⟩,by first | trivial | rfl⟩
 | false=>exact ⟨rfl,hx,rfl⟩
def xP (which:Int) (first here last:Int×Int) (p:PenT) (g:aw):aw:=
 bif which==0 then pM g here last p else bif which==1 then pM g first here p else bif which==2 then pM g first last p else g
theorem zC {R C:Nat} {p:PenT} {g:aw} (hg:gok g R C) (hs:szR R C) (hp:aJ p=true) (w:Int) (f h l:Int×Int) :
  cP w f h l p.1 p.2.1 p.2.2 g=some (xP w f h l p g)/\gok (xP w f h l p g) R C:=by
 have key:∀a b:Int×Int,dP a b (p.1,p.2.1,p.2.2) g=some (pM g a b p):=fun a b=>Gb hg hs hp
 unfold cP xP
 simp only [bt,Option.bind_some,rleq,aM,key]
 cases w==0 with
 | true=>exact ⟨rfl,rP hg hp⟩
 | false=>
  cases w==1 with
  | true=>exact ⟨rfl,rP hg hp⟩
  | false=>
   cases w==2 with
   | true=>exact ⟨rfl,rP hg hp⟩
   | false=>exact ⟨rfl,hg⟩
def HZ:aq:=(69,(0,0),0,0,0,0)
def yk (g:aw):aw:=g.map fun l=>List.replicate l.length HZ
theorem D1:mR none HZ=some none:=by decide +kernel
theorem zM:∀n,seg (List.replicate n HZ)
 | 0=>rfl
 | n+1=>by
  unfold seg
  rw [List.replicate_succ,ca,D1]
  exact zM n
theorem F5 {R C:Nat} {g:aw} (hg:gok g R C) (hs:szR R C):cQ (R:Int) g=some (yk g,(R:Int)-1)/\gok (yk g) R C:=by
 have hs':=hs
 unfold szR at hs
 constructor
 ·unfold cQ
  have hh:((g).headD []).length=C:=by
   cases g with
   | nil=>have:=hg.1;simp at this;omega
   | cons l r=>exact (hg.2 l (by simp)).1
  rw [hh]
  have:rz g C=true:=by
   unfold rz
   rw [aG (by omega:0<C),aG (by omega:C<=1000),aG (by have:=hg.1;omega:g.length<=1000)]
   simp only [Bool.true_and,List.all_eq_true,decide_eq_true_eq]
   exact fun l hl=>(hg.2 l hl).1
  erw [if_pos this]
  rw [aD (by omega)]
  rfl
 ·unfold yk
  refine ⟨by simp [hg.1],fun l hl=>?_⟩
  obtain ⟨x,hx,rfl⟩:=List.mem_map.1 hl
  have:=(hg.2 x hx).1
  exact ⟨by simp [this],bb.2 ⟨by simp;omega,zM _⟩⟩
def pos0 (x:Int):Int:=if x>0 then x else 0
def bR (r c:Int) (s:Sc):Sc:=
 {s with
  grid:=fitG s.grid r.toNat c.toNat (pos0 (s.row+1-r)).toNat
  main:=bif decide ((s.main.length:Int)>0) then fitG s.main r.toNat c.toNat (pos0 ((if s.rows-1<s.sv0.1 then s.rows-1 else s.sv0.1)+1-r)).toNat else s.main
  rows:=r,cols:=c,row:=s.row-pos0 (s.row+1-r),col:=if c-1<s.col then c-1 else s.col,top:=0,bottom:=r-1
  tabs:=bif decide (c>s.cols) then (gh s.tabs s.cols c).getD (0,0,0,0) else s.tabs }
theorem Ga:og=gW:=rfl
theorem Fu {s:Sc} {R C:Nat} (h:OkS s R C) (hl:s.late=false) {R' C':Nat} (hs':szR R' C') :
  dB (R':Int) (C':Int) s.rows s.cols s.row s.col s.sv0.1 s.tabs.1 s.tabs.2.1 s.tabs.2.2.1 s.tabs.2.2.2 s.grid s.main=some ((bR R' C' s).grid,(bR R' C' s).main,(bR R' C' s).rows,(bR R' C' s).cols,(bR R' C' s).row,(bR R' C' s).col,(bR R' C' s).bottom,(bR R' C' s).tabs.1,(bR R' C' s).tabs.2.1,(bR R' C' s).tabs.2.2.1,(bR R' C' s).tabs.2.2.2)/\OkS (bR R' C' s) R' C':=by
 have hsz:=h.sz
 have hsz':=hs'
 unfold szR at hsz hsz'
 have h1:=h.row;have h2:=h.col;have hr:=h.hr;have hc:=h.hc
 have hsp:0<=s.sv0.1/\s.sv0.1<200:=by
  have:=h.s0
  simp only [fF,Bool.and_eq_true,decide_eq_true_eq] at this
  exact this.1
 obtain ⟨gone,hgone⟩:∃k:Nat,pos0 (s.row+1-R')=k:=⟨(pos0 (s.row+1-R')).toNat,by unfold pos0;split <;> omega⟩
 have hgle:gone<=R:=by unfold pos0 at hgone;split at hgone <;> omega
 obtain ⟨gm,hgm⟩:∃k:Nat,pos0 ((if s.rows-1<s.sv0.1 then s.rows-1 else s.sv0.1)+1-R')=k:=⟨(pos0 ((if s.rows-1<s.sv0.1 then s.rows-1 else s.sv0.1)+1-R')).toNat,by unfold pos0;split <;> omega⟩
 have hgmle:gm<=R:=by unfold pos0 at hgm;split at hgm <;> split at hgm <;> omega
 have hgok':0<=s.row-gone/\s.row-gone<R':=by unfold pos0 at hgone;split at hgone <;> omega
 have hF:=Fa h.g h.sz hs' hgle
 have hmin:∃k:Int,(if s.rows-1<s.sv0.1 then s.rows-1 else s.sv0.1)=k/\0<=k/\k<200:=⟨_,rfl,by split <;> omega,by split <;> omega⟩
 obtain ⟨k,hk,hk1,hk2⟩:=hmin
 rw [hk] at hgm
 have hmain:((bif decide ((s.main.length:Int)>0) then (gW (R':Int) (C':Int) (gm:Int) s.main).bind fun x5=>some x5 else some s.main:Option aw))=some (bR R' C' s).main/\((ba s.modes=true/\gok (bR R' C' s).main R' C')\/(ba s.modes=false/\(bR R' C' s).main=[])):=by
  unfold bR
  simp only [hk,hgm,Int.toNat_natCast]
  rcases h.m with ⟨m1,m2⟩ | ⟨m1,m2⟩
  ·rw [aG (by rw [m2.1];omega:(s.main.length:Int)>0)]
   simp only [cond_true]
   rw [Fa m2 h.sz hs' hgmle]
   exact ⟨rfl,.inl ⟨m1,Ce m2 hs'⟩⟩
  ·rw [m2]
   exact ⟨rfl,.inr ⟨m1,rfl⟩⟩
 have htabs:((bif decide ((C':Int)>s.cols) then (gh (s.tabs.1,s.tabs.2.1,s.tabs.2.2.1,s.tabs.2.2.2) s.cols (C':Int)).bind fun x10=>some (x10.1,x10.2.1,x10.2.2.1,x10.2.2.2) else some (s.tabs.1,s.tabs.2.1,s.tabs.2.2.1,s.tabs.2.2.2):Option TabT))=some (bR R' C' s).tabs/\eG (bR R' C' s).tabs:=by
  unfold bR
  simp only
  obtain ⟨t',ht1,ht2⟩:=CG h.tabs s.cols (C':Int)
  cases decide ((C':Int)>s.cols) with
  | true=>
   simp only [cond_true]
   have:gh (s.tabs.1,s.tabs.2.1,s.tabs.2.2.1,s.tabs.2.2.2) s.cols (C':Int)=some t':=ht1
   rw [this]
   exact ⟨rfl,ht2⟩
  | false=>exact ⟨rfl,h.tabs⟩
 constructor
 ·unfold dB
  simp only [rleq,aM,bt,Option.bind_some]
  rw [aD (x:=s.row+1) (by omega),aD (x:=s.row+1-(R':Int)) (by omega),aD (x:=s.rows-1) (by omega),hk,aD (x:=k+1) (by omega),aD (x:=k+1-(R':Int)) (by omega)]
  have e1:(if s.row+1-(R':Int)>0 then s.row+1-(R':Int) else 0)=(gone:Int):=hgone
  have e2:(if k+1-(R':Int)>0 then k+1-(R':Int) else 0)=(gm:Int):=hgm
  rw [e1,e2,hF,Ga]
  simp only [Option.bind_some]
  rw [hmain.1]
  simp only [Option.bind_some]
  erw [htabs.1]
  simp only [Option.bind_some]
  rw [aD (x:=s.row-(gone:Int)) (by omega),aD (x:=(C':Int)-1) (by omega),aD (x:=(R':Int)-1) (by omega)]
  unfold bR
  simp only [hgone,Int.toNat_natCast]
 ·refine ⟨rfl,rfl,hs',?_,hmain.2,?_,?_,?_,?_,?_,?_,h.md,h.pen,h.s0,h.s1,h.ti,htabs.2⟩
  ·unfold bR
   simp only [hgone,Int.toNat_natCast]
   exact Ce h.g hs'
  ·unfold bR
   simp only [hgone]
   exact hgok'
  ·unfold bR
   simp only
   split <;> omega
  ·intro hl'
   have:s.late=true:=hl'
   rw [hl] at this;simp at this
  ·unfold bR;simp only;omega
  ·unfold bR;simp only;omega
  ·unfold bR;simp only;omega
end Go.SH
namespace Go.SH
open IntKind (i64 u64 i32 u8)
def pP (ch:ChT) (s:Sc):Sc:=
 bif ch.1==11 then { s with grid:=xP ch.2.1 (s.row,0) (s.row,s.col) (s.row,s.cols-1) s.pen s.grid }
 else bif ch.1==12 then { s with grid:=xP ch.2.1 (0,0) (s.row,s.col) (s.rows-1,s.cols-1) s.pen s.grid }
 else bif ch.1==13 then { s with grid:=setR s.grid s.row (ga (rowG s.grid s.row) s.col ch.2.1 s.pen) }
 else bif ch.1==14 then { s with grid:=setR s.grid s.row (ow (rowG s.grid s.row) s.col ch.2.1 s.pen) }
 else bif ch.1==15 then { s with grid:=setR s.grid s.row (lP (rowG s.grid s.row) s.col (s.col+pos0 ch.2.1) s.pen) }
 else bif (ch.1==16)||(ch.1==17) then (bif decide (s.row<s.top)||decide (s.row>s.bottom) then s else { s with grid:=scrM s.grid s.row s.bottom (bif ch.1==16 then 0-pos0 ch.2.1 else pos0 ch.2.1) s.pen,col:=0 })
 else bif ch.1==18 then { s with grid:=scrM s.grid s.top s.bottom ch.2.1 s.pen }
 else bif ch.1==19 then (bif decide (ch.2.1>=0)&&(decide (ch.2.1<ch.2.2.1)&&decide (ch.2.2.1<s.rows)) then
  {s with row:=(lh 0 0 s.rows s.cols ch.2.1 ch.2.2.1 s.modes).1,col:=(lh 0 0 s.rows s.cols ch.2.1 ch.2.2.1 s.modes).2,late:=false,top:=ch.2.1,bottom:=ch.2.2.1 } else s)
 else bif ch.1==23 then { s with grid:=yk s.grid,row:=0,col:=0,top:=0,bottom:=s.rows-1 }
 else bif ch.1==27 then bR (betw ch.2.1 1 200) (betw ch.2.2.1 1 200) s
 else s
def Sc.e (s:Sc):aw×aw×Int×Int×Int×Int×Bool×Int×Int×Int×Int×Int×Int:=(s.grid,s.main,s.rows,s.cols,s.row,s.col,s.late,s.top,s.bottom,s.tabs.1,s.tabs.2.1,s.tabs.2.2.1,s.tabs.2.2.2)
theorem okG {s:Sc} {R C:Nat} (h:OkS s R C) {g:aw} (hg:gok g R C):OkS { s with grid:=g } R C:=⟨h.hr,h.hc,h.sz,hg,h.m,h.row,h.col,h.late,h.top,h.bot,h.tb,h.md,h.pen,h.s0,h.s1,h.ti,h.tabs⟩
def CK (ch:ChT) (s:Sc) (R C:Nat):Prop:=∃R' C',OkS s R' C'/\(ch.1≠27->R'=R/\C'=C)
theorem gZ {ch:ChT} {s:Sc} {R C:Nat} (h:OkS s R C):CK ch s R C:=⟨R,C,h,fun _=>⟨rfl,rfl⟩⟩
def chN (ch:ChT):Prop:=ch.1≠20->ch.1≠27->(-1000<=ch.2.1/\ch.2.1<=1000) /\ -1000<=ch.2.2.1/\ch.2.2.1<=1000
theorem Jf {s:Sc} {R C:Nat} (h:OkS s R C) (hl:s.late=false) {ch:ChT} (hn:chN ch) :
  db ch s.rows s.cols s.row s.col s.late s.pen.1 s.pen.2.1 s.pen.2.2 s.top s.bottom s.modes s.sv0.1 s.tabs.1 s.tabs.2.1 s.tabs.2.2.1 s.tabs.2.2.2 s.grid s.main s.title=some (pP ch s).e/\CK ch (pP ch s) R C:=by
 have hs:=h.sz
 unfold szR at hs
 have hr:=h.row;have hc:=h.col;have hR:=h.hr;have hC:=h.hc;have ht:=h.top;have hb:=h.bot
 have hgl:s.grid.length=R:=h.g.1
 obtain ⟨k1,k2,k3⟩:=pp h.g h.row
 have hins:∀n,(cN (rowG s.grid s.row) s.col n (s.pen.1,s.pen.2.1,s.pen.2.2))=some (ga (rowG s.grid s.row) s.col n s.pen):=fun n=>zV k3 h.pen
 have hdel:∀n,(d6 (rowG s.grid s.row) s.col n (s.pen.1,s.pen.2.1,s.pen.2.2))=some (ow (rowG s.grid s.row) s.col n s.pen):=fun n=>Gc k3 h.pen
 have hera:∀n,(dN (rowG s.grid s.row) s.col n (s.pen.1,s.pen.2.1,s.pen.2.2))=some (lP (rowG s.grid s.row) s.col n s.pen):=fun n=>CN k3 h.pen
 have w1:i64.wrap (s.rows-1)=s.rows-1:=aD (by omega)
 have w2:i64.wrap (s.cols-1)=s.cols-1:=aD (by omega)
 unfold db pP
 rw [ae (by omega),k1]
 simp only [bt]
 simp only [bt2,bto,btor,Option.bind_some,Bool.and_true,Bool.or_false,rleq,aM,jX,w1,w2]
 cases h1:(ch.1==11) with
 | true=>
  obtain ⟨q1,q2⟩:=zC h.g h.sz h.pen ch.2.1 (s.row,0) (s.row,s.col) (s.row,s.cols-1)
  simp only [cond_true]
  rw [q1]
  exact ⟨rfl,gZ (okG h q2)⟩
 | false=>
 simp only [cond_false]
 cases h2:(ch.1==12) with
 | true=>
  obtain ⟨q1,q2⟩:=zC h.g h.sz h.pen ch.2.1 (0,0) (s.row,s.col) (s.rows-1,s.cols-1)
  simp only [cond_true]
  rw [q1]
  exact ⟨rfl,gZ (okG h q2)⟩
 | false=>
 simp only [cond_false]
 cases h3:(ch.1==13) with
 | true=>
  simp only [cond_true]
  rw [hins]
  simp only [Option.bind_some]
  rw [ae (by omega),ae (by simp)]
  have hm:=mc (a:=s.col) (n:=ch.2.1) k3 h.pen
  exact ⟨rfl,gZ (okG h (pm h.g ⟨hm.1,hm.2.trans k2⟩))⟩
 | false=>
 simp only [cond_false]
 cases h4:(ch.1==14) with
 | true=>
  simp only [cond_true]
  rw [hdel]
  simp only [Option.bind_some]
  rw [ae (by omega),ae (by simp)]
  have hm:=Co (a:=s.col) (n:=ch.2.1) k3 h.pen
  exact ⟨rfl,gZ (okG h (pm h.g ⟨hm.1,hm.2.trans k2⟩))⟩
 | false=>
 simp only [cond_false]
 cases h5:(ch.1==15) with
 | true=>
  obtain ⟨⟨n1,n2⟩,n3⟩:=hn (by have:=beqf h5;omega) (by have:=beqf h5;omega)
  simp only [cond_true]
  have e0:(if ch.2.1>(0:Int) then ch.2.1 else (0:Int))=pos0 ch.2.1:=rfl
  have e1:i64.wrap (s.col+pos0 ch.2.1)=s.col+pos0 ch.2.1:=aD (by unfold pos0;split <;> omega)
  rw [e0,e1,hera]
  simp only [Option.bind_some]
  rw [ae (by omega),ae (by simp)]
  have hm:=xQ (f:=s.col) (t:=s.col+pos0 ch.2.1) k3 h.pen
  exact ⟨rfl,gZ (okG h (pm h.g ⟨hm.1,hm.2.trans k2⟩))⟩
 | false=>
 simp only [cond_false]
 cases h6:((ch.1==16)||(ch.1==17)) with
 | true=>
  simp only [cond_true]
  cases h61:(decide (s.row<s.top)||decide (s.row>s.bottom)) with
  | true=>exact ⟨rfl,gZ h⟩
  | false=>
   simp only [Bool.or_eq_false_iff,decide_eq_false_iff_not] at h61
   have hk:ch.1=16\/ch.1=17:=by simpa using h6
   obtain ⟨⟨n1,n2⟩,n3⟩:=hn (by omega) (by omega)
   have e0:(if ch.2.1>(0:Int) then ch.2.1 else (0:Int))=pos0 ch.2.1:=rfl
   have hp0:0<=pos0 ch.2.1/\pos0 ch.2.1<=1000:=by unfold pos0;split <;> omega
   have e1:i64.wrap (0-pos0 ch.2.1)=0-pos0 ch.2.1:=aD (by omega)
   simp only [cond_false,e0,e1,EV,Option.bind_some]
   obtain ⟨q1,q2⟩:=Ai h.sz h.pen h.bot.2 h.g hr.1 (by omega) (f:=s.row) (n:=(bif ch.1==16 then 0-pos0 ch.2.1 else pos0 ch.2.1)) (by cases (ch.1==16) <;> simp only [cond_true,cond_false] <;> omega)
   rw [q1]
   exact ⟨rfl,gZ ⟨h.hr,h.hc,h.sz,q2,h.m,h.row,by simp only;omega,by intro hl';rw [hl] at hl';simp at hl',h.top,h.bot,h.tb,h.md,h.pen,h.s0,h.s1,h.ti,h.tabs⟩⟩
 | false=>
 simp only [cond_false]
 cases h7:(ch.1==18) with
 | true=>
  obtain ⟨⟨n1,n2⟩,n3⟩:=hn (by have:=beqf h7;omega) (by have:=beqf h7;omega)
  simp only [cond_true]
  obtain ⟨q1,q2⟩:=Ai h.sz h.pen h.bot.2 h.g ht.1 h.env.etb (n:=ch.2.1) (by omega)
  rw [q1]
  exact ⟨rfl,gZ (okG h q2)⟩
 | false=>
 simp only [cond_false]
 cases h8:(ch.1==19) with
 | true=>
  simp only [cond_true]
  cases h81:(decide (ch.2.1>=0)&&(decide (ch.2.1<ch.2.2.1)&&decide (ch.2.2.1<s.rows))) with
  | true=>
   simp only [Bool.and_eq_true,decide_eq_true_eq] at h81
   simp only [cond_true]
   obtain ⟨q1,q2,q3⟩:=tj (row:=0) (col:=0) (top:=ch.2.1) (bottom:=ch.2.2.1) h.sz (by omega) (by omega) (by omega) (by omega) s.modes
   rw [<-hR,<-hC] at q1 q2 q3
   rw [q1]
   refine ⟨rfl,gZ ⟨h.hr,h.hc,h.sz,h.g,h.m,by simp only;omega,by simp only;omega,by intro hl';simp at hl',by simp only;omega,by simp only;omega,by simp only;omega,h.md,h.pen,h.s0,h.s1,h.ti,h.tabs⟩⟩
  | false=>exact ⟨rfl,gZ h⟩
 | false=>
 simp only [cond_false]
 cases h9:(ch.1==23) with
 | true=>
  simp only [cond_true]
  obtain ⟨q1,q2⟩:=F5 h.g h.sz
  rw [<-hR] at q1
  rw [q1]
  simp only [Option.bind_some]
  rw [ae (by unfold yk;simp)]
  refine ⟨rfl,gZ ⟨h.hr,h.hc,h.sz,q2,h.m,by simp only;omega,by simp only;omega,by intro hl';rw [hl] at hl';simp at hl',by simp only;omega,by simp only;omega,by simp only;omega,h.md,h.pen,h.s0,h.s1,h.ti,h.tabs⟩⟩
 | false=>
 simp only [cond_false]
 cases hA:(ch.1==27) with
 | true=>
  simp only [cond_true]
  have b1:=lS (n:=ch.2.1) (lo:=1) (hi:=200) (by omega)
  have b2:=lS (n:=ch.2.2.1) (lo:=1) (hi:=200) (by omega)
  obtain ⟨R',hR'⟩:∃k:Nat,betw ch.2.1 1 200=k:=⟨(betw ch.2.1 1 200).toNat,by omega⟩
  obtain ⟨C',hC'⟩:∃k:Nat,betw ch.2.2.1 1 200=k:=⟨(betw ch.2.2.1 1 200).toNat,by omega⟩
  rw [hR',hC']
  obtain ⟨q1,q2⟩:=Fu h hl (R':=R') (C':=C') ⟨by omega,by omega,by omega,by omega⟩
  rw [q1]
  exact ⟨rfl,R',C',q2,fun hne=>absurd (beqf hA) hne⟩
 | false=>exact ⟨rfl,gZ h⟩
def tS:List Int:=[1,2,4,8,16,32,64,128]
theorem Jp:∀b:_root_.Fin 256,(decide ((b.val:Int)<1)||(aj .and .i64 (b.val:Int) (i64.wrap ((b.val:Int)-1)) !=0)||tS.contains (b.val:Int))=true:=by decide +kernel
def jA (m b:Int):Int:=aj .or .i64 (aj .andNot .i64 m b) b
def jB (m b:Int):Int:=aj .andNot .i64 m b
def H0 (x:Int):Bool:=decide (0<=x)&&decide (x<=255)
theorem G5:∀m:_root_.Fin 256,∀k:_root_.Fin 8,(let b:=tS[k.val]?.getD 0;H0 (jA m.val b)&&H0 (jB m.val b)&&(b==128||(ba (jA m.val b)==ba m.val&&(ba (jB m.val b)==ba m.val))))=true:=by decide +kernel
theorem G6:∀m:_root_.Fin 256,(ba (jA m.val 128) && !ba (jB m.val 128))=true:=by decide +kernel
theorem F1 {b:Int} (h:b∈tS):∃k:_root_.Fin 8,tS[k.val]?.getD 0=b:=by
 simp only [tS,List.mem_cons,List.not_mem_nil,or_false] at h
 rcases h with h | h | h | h | h | h | h | h <;> subst h
 ·exact ⟨0,rfl⟩
 ·exact ⟨1,rfl⟩
 ·exact ⟨2,rfl⟩
 ·exact ⟨3,rfl⟩
 ·exact ⟨4,rfl⟩
 ·exact ⟨5,rfl⟩
 ·exact ⟨6,rfl⟩
 ·exact ⟨7,rfl⟩
theorem G4 {m b:Int} (hm:0<=m/\m<=255) (hb:b∈tS):(0<=jA m b/\jA m b<=255)/\(0<=jB m b/\jB m b<=255)/\(b≠128->ba (jA m b)=ba m/\ba (jB m b)=ba m):=by
 obtain ⟨k,hk⟩:=F1 hb
 have:=G5 ⟨m.toNat,by omega⟩ k
 simp only [hk,show ((m.toNat:Nat):Int)=m from by omega,H0,Bool.and_eq_true,decide_eq_true_eq,Bool.or_eq_true,beq_iff_eq] at this
 exact ⟨this.1.1,this.1.2,fun h=>by rcases this.2 with h2 | h2;exact absurd h2 h;exact h2⟩
theorem Kv {m:Int} (hm:0<=m/\m<=255):ba (jA m 128)=true/\ba (jB m 128)=false:=by
 have:=G6 ⟨m.toNat,by omega⟩
 simpa only [show ((m.toNat:Nat):Int)=m from by omega,Bool.and_eq_true,Bool.not_eq_true'] using this
def Ag (s:Sc):tV:=(s.row,s.col,s.pen,wm s.modes,s.late)
def bW (s:Sc):Sc:=bif ba s.modes then { s with sv1:=Ag s } else { s with sv0:=Ag s }
def jx (s:Sc):tV:=bif ba s.modes then s.sv1 else s.sv0
def dc (s:Sc):Sc:=
 {s with row:=betw (jx s).1 0 (s.rows-1),col:=betw (jx s).2.1 0 (s.cols-1),pen:=(jx s).2.2.1,modes:=bif (jx s).2.2.2.1 then jA s.modes 2 else jB s.modes 2,late:=bif (jx s).2.2.2.2 then betw (jx s).2.1 0 (s.cols-1)==s.cols-1 else false }
theorem Ex (m:Int):da m=some (bif ba m then 1 else 0):=by
 unfold da ba
 cases (aj .and .i64 m 128 !=0) <;> rfl
def Sc.sv (s:Sc):Int×Int×Int×Int×Int×Bool×Bool×Int×Int×Int×Int×Int×Bool×Bool:=(s.sv0.1,s.sv0.2.1,s.sv0.2.2.1.1,s.sv0.2.2.1.2.1,s.sv0.2.2.1.2.2,s.sv0.2.2.2.1,s.sv0.2.2.2.2,
 s.sv1.1,s.sv1.2.1,s.sv1.2.2.1.1,s.sv1.2.2.1.2.1,s.sv1.2.2.1.2.2,s.sv1.2.2.2.1,s.sv1.2.2.2.2)
theorem Er (s:Sc) (g m:aw) (ti:List Int):cZ s.row s.col s.late s.pen.1 s.pen.2.1 s.pen.2.2 s.modes s.sv0.1 s.sv0.2.1 s.sv0.2.2.1.1 s.sv0.2.2.1.2.1 s.sv0.2.2.1.2.2 s.sv0.2.2.2.1 s.sv0.2.2.2.2
  s.sv1.1 s.sv1.2.1 s.sv1.2.2.1.1 s.sv1.2.2.1.2.1 s.sv1.2.2.1.2.2 s.sv1.2.2.2.1 s.sv1.2.2.2.2 g m ti=some (bW s).sv:=by
 unfold cZ bW
 simp only [rleq,aM,Ex,Option.bind_some]
 cases ba s.modes <;> rfl
theorem wS {s:Sc} {R C:Nat} (h:OkS s R C):fF (Ag s)=true:=by
 have hs:=h.sz
 unfold szR at hs
 have hr:=h.row;have hc:=h.col
 unfold fF Ag
 simp only
 rw [aG (by omega:0<=s.row/\s.row<200),aG (by omega:0<=s.col/\s.col<200),h.pen];rfl
theorem BE {s:Sc} {R C:Nat} (h:OkS s R C):OkS (bW s) R C:=by
 unfold bW
 cases ba s.modes with
 | true=>exact ⟨h.hr,h.hc,h.sz,h.g,h.m,h.row,h.col,h.late,h.top,h.bot,h.tb,h.md,h.pen,h.s0,wS h,h.ti,h.tabs⟩
 | false=>exact ⟨h.hr,h.hc,h.sz,h.g,h.m,h.row,h.col,h.late,h.top,h.bot,h.tb,h.md,h.pen,wS h,h.s1,h.ti,h.tabs⟩
theorem w7 {s:Sc} {R C:Nat} (hR:s.rows=R) (hC:s.cols=C) (hs:szR R C) (g m:aw) (ti:List Int):bJ s.rows s.cols s.modes s.sv0.1 s.sv0.2.1 s.sv0.2.2.1.1 s.sv0.2.2.1.2.1 s.sv0.2.2.1.2.2 s.sv0.2.2.2.1 s.sv0.2.2.2.2
  s.sv1.1 s.sv1.2.1 s.sv1.2.2.1.1 s.sv1.2.2.1.2.1 s.sv1.2.2.1.2.2 s.sv1.2.2.2.1 s.sv1.2.2.2.2 g m ti=some ((dc s).row,(dc s).col,(dc s).late,(dc s).pen.1,(dc s).pen.2.1,(dc s).pen.2.2,(dc s).modes):=by
 unfold szR at hs
 unfold bJ dc jx
 rw [aD (x:=s.rows-1) (by omega),aD (x:=s.cols-1) (by omega)]
 have ez:∀(b:Bool) (x y:Int×Int×Int×Int×Int×Bool×Bool),((bif (bif b then (1:Int) else 0)==0 then some x else bif (bif b then (1:Int) else 0)==1 then some y else none:Option (Int×Int×Int×Int×Int×Bool×Bool)))=some (bif b then y else x):=fun b x y=>by cases b <;> rfl
 simp only [bt]
 simp only [rleq,aM,Ex,Option.bind_some,jX,ez]
 cases ba s.modes with
 | true=>
  simp only [cond_true]
  cases s.sv1.2.2.2.1 <;> cases s.sv1.2.2.2.2 <;> rfl
 | false=>
  simp only [cond_false]
  cases s.sv0.2.2.2.1 <;> cases s.sv0.2.2.2.2 <;> rfl
theorem vg {s:Sc} {R C:Nat} (h:OkS s R C):OkS (dc s) R C:=by
 have hs:=h.sz
 unfold szR at hs
 have hR:=h.hr;have hC:=h.hc
 have hsp:fF (jx s)=true:=by
  unfold jx
  cases ba s.modes with
  | true=>exact h.s1
  | false=>exact h.s0
 simp only [fF,Bool.and_eq_true] at hsp
 have b1:=lS (n:=(jx s).1) (lo:=0) (hi:=s.rows-1) (by omega)
 have b2:=lS (n:=(jx s).2.1) (lo:=0) (hi:=s.cols-1) (by omega)
 obtain ⟨m1,m2,m3⟩:=G4 h.md (b:=2) (by simp [tS])
 obtain ⟨o1,o2⟩:=m3 (by decide)
 refine ⟨h.hr,h.hc,h.sz,h.g,?_,?_,?_,?_,h.top,h.bot,h.tb,?_,hsp.2.2,h.s0,h.s1,h.ti,h.tabs⟩
 ·have:ba (dc s).modes=ba s.modes:=by
   unfold dc
   cases (jx s).2.2.2.1 with
   | true=>exact o1
   | false=>exact o2
  rw [this];exact h.m
 ·unfold dc;simp only;omega
 ·unfold dc;simp only;omega
 ·unfold dc
  simp only
  cases (jx s).2.2.2.2 with
  | true=>intro hl;have:=beqf hl;omega
  | false=>intro hl;simp at hl
 ·unfold dc
  simp only
  cases (jx s).2.2.2.1 with
  | true=>exact m1
  | false=>exact m2
def pV (b:Int):Bool:=decide (b<1)||(decide (b>255)||(aj .and .i64 b (i64.wrap (b-1)) !=0))
theorem EI {b:Int} (h:pV b=false):b∈tS:=by
 simp only [pV,Bool.or_eq_false_iff,decide_eq_false_iff_not] at h
 have:=Jp ⟨b.toNat,by omega⟩
 simp only [show ((b.toNat:Nat):Int)=b from by omega,Bool.or_eq_true,decide_eq_true_eq,List.contains_iff_mem] at this
 rcases this with (h1 | h1) | h1
 ·omega
 ·rw [h.2.2] at h1;simp at h1
 ·exact h1
def bx (b:Int) (on:Bool) (s:Sc):Sc:=
 bif (b==128) && !((aj .and .i64 s.modes b !=0)==on) then
  (bif on then { bW s with main:=s.grid,grid:=dW s.rows.toNat s.cols.toNat (0,0,0) } else { s with grid:=s.main,main:=[] }) else s
def setM (b:Int) (on:Bool) (s:Sc):Sc:={ s with modes:=bif on then jA s.modes b else jB s.modes b }
def oM (b:Int) (on:Bool) (s:Sc):Sc:=
 bif pV b then s
 else bif b==2 then { setM b on (bx b on s) with row:=(lh 0 0 s.rows s.cols s.top s.bottom (setM b on s).modes).1,col:=(lh 0 0 s.rows s.cols s.top s.bottom (setM b on s).modes).2,late:=false }
 else bif b==128 then (bif (aj .and .i64 s.modes b !=0) && !on then dc (setM b on (bx b on s)) else { setM b on (bx b on s) with late:=false })
 else setM b on (bx b on s)
end Go.SH
namespace Go.SH
open IntKind (i64 u64 i32 u8)
theorem wasB {s:Sc}:(aj .and .i64 s.modes 128 !=0)=ba s.modes:=rfl
theorem GE {b:Int} (h:(b==128)=false) (on:Bool) (s:Sc):bx b on s=s:=by unfold bx;rw [h];rfl
theorem wV {s:Sc} {R C:Nat} (h:OkS s R C) {b:Int} (hb:b∈tS) (on:Bool):OkS (setM b on (bx b on s)) R C:=by
 obtain ⟨m1,m2,m3⟩:=G4 h.md hb
 have hmd:0<=(bif on then jA s.modes b else jB s.modes b)/\(bif on then jA s.modes b else jB s.modes b)<=255:=by
  cases on with
  | true=>exact m1
  | false=>exact m2
 cases h128:(b==128) with
 | false=>
  rw [GE h128]
  obtain ⟨o1,o2⟩:=m3 (by simpa using h128)
  refine ⟨h.hr,h.hc,h.sz,h.g,?_,h.row,h.col,h.late,h.top,h.bot,h.tb,hmd,h.pen,h.s0,h.s1,h.ti,h.tabs⟩
  have:ba (setM b on s).modes=ba s.modes:=by
   unfold setM
   cases on with
   | true=>exact o1
   | false=>exact o2
  rw [this];exact h.m
 | true=>
  have hb':b=128:=beqf h128
  subst hb'
  obtain ⟨o1,o2⟩:=Kv h.md
  have hs:=h.sz
  unfold bx
  rw [wasB]
  simp only [beq_self_eq_true,Bool.true_and]
  cases ho:ba s.modes with
  | true=>
   cases on with
   | true=>
    exact ⟨h.hr,h.hc,h.sz,h.g,.inl ⟨o1,by
     rcases h.m with ⟨_,m⟩ | ⟨m,_⟩
     ·exact m
     ·rw [ho] at m;simp at m⟩,h.row,h.col,h.late,h.top,h.bot,h.tb,hmd,h.pen,h.s0,h.s1,h.ti,h.tabs⟩
   | false=>
    have hm:gok s.main R C:=by
     rcases h.m with ⟨_,m⟩ | ⟨m,_⟩
     ·exact m
     ·rw [ho] at m;simp at m
    exact ⟨h.hr,h.hc,h.sz,hm,.inr ⟨o2,rfl⟩,h.row,h.col,h.late,h.top,h.bot,h.tb,hmd,h.pen,h.s0,h.s1,h.ti,h.tabs⟩
  | false=>
   cases on with
   | true=>
    have k:=BE h
    have hg:gok (dW s.rows.toNat s.cols.toNat (0,0,0)) R C:=by
     rw [h.hr,h.hc];exact yf (by decide) h.sz
    have e1:(bW s).rows=s.rows:=by unfold bW;cases ba s.modes <;> rfl
    have e2:(bW s).modes=s.modes:=by unfold bW;cases ba s.modes <;> rfl
    refine ⟨k.hr,k.hc,h.sz,hg,.inl ⟨?_,h.g⟩,k.row,k.col,k.late,k.top,k.bot,k.tb,?_,k.pen,k.s0,k.s1,k.ti,k.tabs⟩
    ·show ba (jA (bW s).modes 128)=true
     rw [e2];exact o1
    ·show 0<=jA (bW s).modes 128/\jA (bW s).modes 128<=255
     rw [e2];exact hmd
   | false=>
    exact ⟨h.hr,h.hc,h.sz,h.g,.inr ⟨o2,by
     rcases h.m with ⟨m,_⟩ | ⟨_,m⟩
     ·rw [ho] at m;simp at m
     ·exact m⟩,h.row,h.col,h.late,h.top,h.bot,h.tb,hmd,h.pen,h.s0,h.s1,h.ti,h.tabs⟩
theorem G7 {s:Sc} {R C:Nat} (h:OkS s R C) (b:Int) (on:Bool):OkS (oM b on s) R C:=by
 unfold oM
 cases hbad:pV b with
 | true=>exact h
 | false=>
  have hb:=EI hbad
  have k:=wV h hb on
  simp only [cond_false]
  cases h2:(b==2) with
  | true=>
   have hR:=h.hr;have hC:=h.hc
   have hsz:=h.sz
   unfold szR at hsz
   obtain ⟨q1,q2,q3⟩:=tj (row:=0) (col:=0) h.sz h.env.etop h.env.etb h.env.ebot (by omega) (setM b on s).modes
   rw [<-hR,<-hC] at q2 q3
   exact ⟨k.hr,k.hc,k.sz,k.g,k.m,by simp only [cond_true];omega,by simp only [cond_true];omega,by intro hl;simp at hl,k.top,k.bot,k.tb,k.md,k.pen,k.s0,k.s1,k.ti,k.tabs⟩
  | false=>
   simp only [cond_false]
   cases h128:(b==128) with
   | false=>exact k
   | true=>
    simp only [cond_true]
    cases ((aj .and .i64 s.modes b !=0) && !on) with
    | true=>exact vg k
    | false=>exact ⟨k.hr,k.hc,k.sz,k.g,k.m,k.row,k.col,by intro hl;simp at hl,k.top,k.bot,k.tb,k.md,k.pen,k.s0,k.s1,k.ti,k.tabs⟩
def Sc.md9 (s:Sc):aw×aw×Int×Int×Bool×Int×Int×Int×Int×Int×Int×Int×Int×Int×Bool×Bool×Int×Int×Int×Int×Int×Bool×Bool:=
 (s.grid,s.main,s.row,s.col,s.late,s.pen.1,s.pen.2.1,s.pen.2.2,s.modes,s.sv0.1,s.sv0.2.1,s.sv0.2.2.1.1,s.sv0.2.2.1.2.1,s.sv0.2.2.1.2.2,s.sv0.2.2.2.1,s.sv0.2.2.2.2,
 s.sv1.1,s.sv1.2.1,s.sv1.2.2.1.1,s.sv1.2.2.1.2.1,s.sv1.2.2.1.2.2,s.sv1.2.2.2.1,s.sv1.2.2.2.2)
theorem IZ {s:Sc} {R C:Nat} (h:OkS s R C) (b:Int) (on:Bool):ef b on s.rows s.cols s.row s.col s.late s.pen.1 s.pen.2.1 s.pen.2.2 s.top s.bottom s.modes s.sv0.1 s.sv0.2.1 s.sv0.2.2.1.1 s.sv0.2.2.1.2.1 s.sv0.2.2.1.2.2 s.sv0.2.2.2.1 s.sv0.2.2.2.2
  s.sv1.1 s.sv1.2.1 s.sv1.2.2.1.1 s.sv1.2.2.1.2.1 s.sv1.2.2.1.2.2 s.sv1.2.2.2.1 s.sv1.2.2.2.2 s.grid s.main s.title=some (oM b on s).md9:=by
 have hs:=h.sz
 unfold szR at hs
 have hR:=h.hr;have hC:=h.hc
 unfold ef oM
 have e0:(bif decide (b<1) then some true else bif decide (b>255) then some true else bif (aj .and .i64 b (i64.wrap (b-1))) !=0 then some true else some false:Option Bool)=some (pV b):=by
  unfold pV
  cases decide (b<1) <;> cases decide (b>255) <;> cases (aj .and .i64 b (i64.wrap (b-1)) !=0) <;> rfl
 rw [e0]
 simp only [Option.bind_some]
 cases hbad:pV b with
 | true=>simp only [cond_true,rleq,aM];rfl
 | false=>
  have hb:=EI hbad
  simp only [bt]
  simp only [cond_false,bt2,Option.bind_some,rleq,aM,Bool.and_true]
  rw [Er s]
  have eBl:fy s.rows s.cols (0,0,0)=some (dW s.rows.toNat s.cols.toNat (0,0,0)):=by
   rw [hR,hC,pX,gb (by omega) (by omega) (by decide)];rfl
  rw [eBl]
  simp only [Option.bind_some,rleq,aM]
  have e1:(bif (b==128) && !((aj .and .i64 s.modes b !=0)==on) then bif on then some (dW s.rows.toNat s.cols.toNat (0,0,0),s.grid,(bW s).sv.1,(bW s).sv.2.1,(bW s).sv.2.2.1,(bW s).sv.2.2.2.1,(bW s).sv.2.2.2.2.1,(bW s).sv.2.2.2.2.2.1,(bW s).sv.2.2.2.2.2.2.1,(bW s).sv.2.2.2.2.2.2.2.1,(bW s).sv.2.2.2.2.2.2.2.2.1,(bW s).sv.2.2.2.2.2.2.2.2.2.1,(bW s).sv.2.2.2.2.2.2.2.2.2.2.1,(bW s).sv.2.2.2.2.2.2.2.2.2.2.2.1,(bW s).sv.2.2.2.2.2.2.2.2.2.2.2.2.1,(bW s).sv.2.2.2.2.2.2.2.2.2.2.2.2.2)
    else some (s.main,[],s.sv0.1,s.sv0.2.1,s.sv0.2.2.1.1,s.sv0.2.2.1.2.1,s.sv0.2.2.1.2.2,s.sv0.2.2.2.1,s.sv0.2.2.2.2,s.sv1.1,s.sv1.2.1,s.sv1.2.2.1.1,s.sv1.2.2.1.2.1,s.sv1.2.2.1.2.2,s.sv1.2.2.2.1,s.sv1.2.2.2.2)
   else some (s.grid,s.main,s.sv0.1,s.sv0.2.1,s.sv0.2.2.1.1,s.sv0.2.2.1.2.1,s.sv0.2.2.1.2.2,s.sv0.2.2.2.1,s.sv0.2.2.2.2,s.sv1.1,s.sv1.2.1,s.sv1.2.2.1.1,s.sv1.2.2.1.2.1,s.sv1.2.2.1.2.2,s.sv1.2.2.2.1,s.sv1.2.2.2.2):Option (aw×aw×Int×Int×Int×Int×Int×Bool×Bool×Int×Int×Int×Int×Int×Bool×Bool))=some ((bx b on s).grid,(bx b on s).main,(bx b on s).sv):=by
   unfold bx
   cases ((b==128) && !((aj .and .i64 s.modes b !=0)==on)) with
   | false=>rfl
   | true=>cases on <;> rfl
  rw [e1]
  simp only [Option.bind_some]
  have e2:(bif on then some (aj .or .i64 (aj .andNot .i64 s.modes b) b) else some (aj .andNot .i64 s.modes b):Option Int)=some (setM b on s).modes:=by cases on <;> rfl
  rw [e2]
  simp only [Option.bind_some]
  have f0:∀x:Sc,(bx b on s).rows=s.rows/\(bx b on s).cols=s.cols/\(bx b on s).row=s.row/\(bx b on s).col=s.col/\(bx b on s).late=s.late/\(bx b on s).pen=s.pen/\(bx b on s).modes=s.modes:=fun _=>by
   unfold bx bW
   cases ((b==128) && !((aj .and .i64 s.modes b !=0)==on)) <;> cases on <;> cases ba s.modes <;> exact ⟨rfl,rfl,rfl,rfl,rfl,rfl,rfl⟩
  obtain ⟨f1,f2,f3,f4,f5,f6,f7⟩:=f0 s
  have fm:(setM b on (bx b on s)).modes=(setM b on s).modes:=by unfold setM;simp only [f7]
  cases h2:(b==2) with
  | true=>
   simp only [cond_true]
   obtain ⟨q1,_,_⟩:=tj (row:=0) (col:=0) h.sz h.env.etop h.env.etb h.env.ebot (by omega) (setM b on s).modes
   rw [<-hR,<-hC] at q1
   rw [q1]
   simp only [Option.bind_some]
   unfold Sc.md9
   simp only [fm]
   have g1:(setM b on (bx b on s)).pen=s.pen:=f6
   rw [g1];rfl
  | false=>
   simp only [cond_false]
   cases h128:(b==128) with
   | false=>
    simp only [cond_false]
    unfold Sc.md9
    have g1:(setM b on (bx b on s)).pen=s.pen:=f6
    have g2:(setM b on (bx b on s)).row=s.row:=f3
    have g3:(setM b on (bx b on s)).col=s.col:=f4
    have g4:(setM b on (bx b on s)).late=s.late:=f5
    rw [g1,g2,g3,g4,fm];rfl
   | true=>
    simp only [cond_true]
    cases hw:((aj .and .i64 s.modes b !=0) && !on) with
    | true=>
     simp only [cond_true]
     have k:=wV h hb on
     have hre:=w7 (s:=setM b on (bx b on s)) (R:=R) (C:=C) k.hr k.hc h.sz (bx b on s).grid (bx b on s).main s.title
     have g1:(setM b on (bx b on s)).rows=s.rows:=f1
     have g2:(setM b on (bx b on s)).cols=s.cols:=f2
     rw [g1,g2,fm] at hre
     have hre':bJ s.rows s.cols (setM b on s).modes (bx b on s).sv.1 (bx b on s).sv.2.1 (bx b on s).sv.2.2.1 (bx b on s).sv.2.2.2.1 (bx b on s).sv.2.2.2.2.1 (bx b on s).sv.2.2.2.2.2.1 (bx b on s).sv.2.2.2.2.2.2.1 (bx b on s).sv.2.2.2.2.2.2.2.1 (bx b on s).sv.2.2.2.2.2.2.2.2.1 (bx b on s).sv.2.2.2.2.2.2.2.2.2.1 (bx b on s).sv.2.2.2.2.2.2.2.2.2.2.1 (bx b on s).sv.2.2.2.2.2.2.2.2.2.2.2.1 (bx b on s).sv.2.2.2.2.2.2.2.2.2.2.2.2.1 (bx b on s).sv.2.2.2.2.2.2.2.2.2.2.2.2.2 (bx b on s).grid (bx b on s).main s.title=_:=hre
     rw [hre']
     simp only [Option.bind_some]
     rfl
    | false=>
     simp only [cond_false]
     unfold Sc.md9
     have g1:(setM b on (bx b on s)).pen=s.pen:=f6
     have g2:(setM b on (bx b on s)).row=s.row:=f3
     have g3:(setM b on (bx b on s)).col=s.col:=f4
     simp only [fm]
     rw [g1,g2,g3];rfl
def o7 (acc:List Int) (x:Int):List Int:=bif decide (ax x>0)&&decide ((acc.length:Int)<60) then acc++[x] else acc
def C8 (l:List Int):List Int:=l.foldl o7 []
theorem wO {acc:List Int} (h:du acc=true) (x:Int):du (o7 acc x)=true:=by
 unfold o7
 cases hc:(decide (ax x>0)&&decide ((acc.length:Int)<60)) with
 | false=>exact h
 | true=>
  simp only [Bool.and_eq_true,decide_eq_true_eq] at hc
  simp only [du,Bool.and_eq_true,decide_eq_true_eq] at h
  simp only [cond_true,du,Bool.and_eq_true,decide_eq_true_eq,List.length_append,List.length_singleton,List.all_append,List.all_cons,List.all_nil,Bool.and_true]
  exact ⟨by omega,h.2,by omega⟩
theorem zw:∀(l acc:List Int),du acc=true->du (l.foldl o7 acc)=true
 | [],acc,h=>h
 | x::r,acc,h=>zw r _ (wO h x)
theorem C7 (l:List Int):du (C8 l)=true:=zw l [] rfl
theorem wN {ch:ChT} (hb:ch.2.2.2.2.2.length<=1000000):∀(m i:Nat) (acc:List Int),i+m=ch.2.2.2.2.2.length->du acc=true->aH (aT ch) ((i:Int),acc)=some ((ch.2.2.2.2.2.drop i).foldl o7 acc)
 | 0,i,acc,h,ha=>by
  have e:i=ch.2.2.2.2.2.length:=by omega
  rw [aL]
  have:aT ch ((i:Int),acc)=some (.inl acc):=by
   unfold aT
   simp only [bt,Option.bind_some]
   rw [aU (by omega:¬(i:Int)<(ch.2.2.2.2.2.length:Int))]
   simp only [cond_false,rleq,aM]
  rw [this,e,List.drop_length]
  rfl
 | m+1,i,acc,h,ha=>by
  have hi:i<ch.2.2.2.2.2.length:=by omega
  have hac:acc.length<=60:=by
   simp only [du,Bool.and_eq_true,decide_eq_true_eq] at ha;exact ha.1
  rw [aL,List.drop_eq_getElem_cons hi]
  have:aT ch ((i:Int),acc)=some (.inr (((i+1:Nat):Int),o7 acc ch.2.2.2.2.2[i])):=by
   unfold aT
   simp only [bt]
   simp only [bt2,Option.bind_some,iS,rleq,aM,Bool.and_true]
   rw [aG (by omega:(i:Int)<(ch.2.2.2.2.2.length:Int)),bo,List.getElem?_eq_getElem hi]
   simp only [cond_true,Option.bind_some]
   have e:(bif decide (ax ch.2.2.2.2.2[i]>0)&&decide ((acc.length:Int)<60) then req ((acc++[ch.2.2.2.2.2[i]]).length*4<=aI) (some (acc++[ch.2.2.2.2.2[i]])) else some acc:Option (List Int))=some (o7 acc ch.2.2.2.2.2[i]):=by
    unfold o7
    rw [ae (by simp only [List.length_append,List.length_singleton];unfold aI;omega)]
    cases (decide (ax ch.2.2.2.2.2[i]>0)&&decide ((acc.length:Int)<60)) <;> rfl
   rw [e]
   simp only [Option.bind_some]
   rw [aD (by omega)];rfl
  rw [this]
  exact wN hb m (i+1) _ (by omega) (wO ha _)
def lG (R C:Int):Sc:=⟨R,C,dW R.toNat C.toNat (0,0,0),[],0,0,false,(0,0,0),0,R-1,9,uu,uu,sk C.toNat,[]⟩
theorem sS {R C:Nat} (h:szR R C):OkS (lG R C) R C:=by
 have hs:=h
 unfold szR at hs
 exact ⟨rfl,rfl,h,yf (by decide) h,.inr ⟨(by decide +kernel:ba 9=false),rfl⟩,by simp only [lG];omega,by simp only [lG];omega,by intro hl;simp [lG] at hl,by simp only [lG];omega,by simp only [lG];omega,by simp only [lG];omega,by simp [lG],(by decide +kernel:aJ (0,0,0)=true),(by decide +kernel:fF uu=true),(by decide +kernel:fF uu=true),rfl,Gu hs.2.2.2⟩
def JU (n:Int) (s:Sc):Sc:=
 bif n==0 then { s with tabs:=(kq s.tabs s.col).getD (0,0,0,0) } else bif n==1 then { s with tabs:=(jO s.tabs s.col).getD (0,0,0,0) } else bif n==2 then { s with tabs:=(0,0,0,0) } else s
def kE (ch:ChT) (s:Sc):Sc:=
 {s with grid:=(oK ch s.rows s.cols s.row s.col false s.pen s.top s.bottom s.modes s.tabs s.grid).1,row:=(oK ch s.rows s.cols s.row s.col false s.pen s.top s.bottom s.modes s.tabs s.grid).2.1,col:=(oK ch s.rows s.cols s.row s.col false s.pen s.top s.bottom s.modes s.tabs s.grid).2.2.1,late:=false }
def w8 (c:Int) (s:Sc):Sc:=
 {s with grid:=(kT s.rows s.cols s.row s.col s.late s.top s.bottom s.modes s.pen s.grid c).1,row:=(kT s.rows s.cols s.row s.col s.late s.top s.bottom s.modes s.pen s.grid c).2.1,col:=(kT s.rows s.cols s.row s.col s.late s.top s.bottom s.modes s.pen s.grid c).2.2.1,late:=(kT s.rows s.cols s.row s.col s.late s.top s.bottom s.modes s.pen s.grid c).2.2.2 }
def wB (ch:ChT) (s:Sc):Sc:=
 bif ch.1==1 then w8 ch.2.2.2.1 s
 else bif ch.1==25 then { s with pen:=uW s.pen ch.2.2.2.2.1 }
 else bif ch.1==26 then { s with title:=C8 ch.2.2.2.2.2 }
 else bif ch.1==10 then JU ch.2.1 s
 else bif ch.1==21 then bW s
 else bif ch.1==20 then oM ch.2.1 (ch.2.2.1 !=0) s
 else bif ch.1==22 then dc s
 else bif ch.1==24 then lG s.rows s.cols
 else bif decide (ch.1>=1)&&decide (ch.1<=27) then pP ch (kE ch s)
 else s
def chL (ch:ChT):Prop:=ch.2.2.2.2.1.length<=1000000/\ch.2.2.2.2.2.length<=1000000
theorem zL {s:Sc} {R C:Nat} (h:OkS s R C) {ch:ChT} (hn:chN ch) (hl:chL ch):chgS ch s=some (wB ch s).f/\CK ch (wB ch s) R C:=by
 have hs:=h.sz
 unfold szR at hs
 have hR:=h.hr;have hC:=h.hc
 unfold chgS cH wB
 simp only [bt]
 simp only [bt2,Option.bind_some,rleq,aM,Bool.and_true]
 cases h1:(ch.1==1) with
 | true=>
  have q:=GT h.env h.inG (late:=s.late) s.modes ch.2.2.2.1 s.main s.title
  obtain ⟨⟨q1,q2,q3⟩,q4⟩:=Fw h.env h.inG h.late s.modes ch.2.2.2.1
  rw [<-hR,<-hC] at q q1 q2 q3 q4
  simp only [cond_true]
  rw [q]
  refine ⟨rfl,gZ ⟨h.hr,h.hc,h.sz,?_,h.m,?_,?_,?_,h.top,h.bot,h.tb,h.md,h.pen,h.s0,h.s1,h.ti,h.tabs⟩⟩
  ·rw [hR,hC] at q1;unfold w8;rw [hR,hC];exact q1
  ·unfold w8;simp only at q2 ⊢;omega
  ·unfold w8;simp only at q3 ⊢;omega
  ·intro hl;have:=q4 hl;unfold w8;simp only at this ⊢;omega
 | false=>
 simp only [cond_false]
 cases h2:(ch.1==25) with
 | true=>
  simp only [cond_true]
  have:nf (s.pen.1,s.pen.2.1,s.pen.2.2) ch.2.2.2.2.1=some (uW s.pen ch.2.2.2.2.1):=Ig h.pen (by have:=hl.1;omega)
  rw [this]
  exact ⟨rfl,gZ ⟨h.hr,h.hc,h.sz,h.g,h.m,h.row,h.col,h.late,h.top,h.bot,h.tb,h.md,D5 h.pen _,h.s0,h.s1,h.ti,h.tabs⟩⟩
 | false=>
 simp only [cond_false]
 cases h3:(ch.1==26) with
 | true=>
  simp only [cond_true]
  have:aH (aT ch) (0,[])=some (C8 ch.2.2.2.2.2):=wN hl.2 ch.2.2.2.2.2.length 0 [] (by omega) rfl
  rw [this]
  exact ⟨rfl,gZ ⟨h.hr,h.hc,h.sz,h.g,h.m,h.row,h.col,h.late,h.top,h.bot,h.tb,h.md,h.pen,h.s0,h.s1,C7 _,h.tabs⟩⟩
 | false=>
 simp only [cond_false]
 have ktab:∀{t:TabT},eG t->CK ch { s with tabs:=t } R C:=fun ht=>gZ ⟨h.hr,h.hc,h.sz,h.g,h.m,h.row,h.col,h.late,h.top,h.bot,h.tb,h.md,h.pen,h.s0,h.s1,h.ti,ht⟩
 cases h4:(ch.1==10) with
 | true=>
  simp only [cond_true]
  unfold JU
  cases ch.2.1==0 with
  | true=>
   obtain ⟨t,t1,t2⟩:=H6 h.tabs s.col
   have:kq (s.tabs.1,s.tabs.2.1,s.tabs.2.2.1,s.tabs.2.2.2) s.col=some t:=t1
   rw [this]
   exact ⟨rfl,ktab t2⟩
  | false=>
   cases ch.2.1==1 with
   | true=>
    obtain ⟨t,t1,t2⟩:=If h.tabs s.col
    have:jO (s.tabs.1,s.tabs.2.1,s.tabs.2.2.1,s.tabs.2.2.2) s.col=some t:=t1
    rw [this]
    exact ⟨rfl,ktab t2⟩
   | false=>
    cases ch.2.1==2 with
    | true=>exact ⟨rfl,ktab yW⟩
    | false=>exact ⟨rfl,gZ h⟩
 | false=>
 simp only [cond_false]
 cases h5:(ch.1==21) with
 | true=>
  simp only [cond_true]
  rw [Er s]
  have e:(bW s).f=(s.grid,s.main,s.title,s.rows,s.cols,s.row,s.col,s.late,s.pen.1,s.pen.2.1,s.pen.2.2,s.top,s.bottom,s.modes,(bW s).sv.1,(bW s).sv.2.1,(bW s).sv.2.2.1,(bW s).sv.2.2.2.1,(bW s).sv.2.2.2.2.1,(bW s).sv.2.2.2.2.2.1,(bW s).sv.2.2.2.2.2.2.1,(bW s).sv.2.2.2.2.2.2.2.1,(bW s).sv.2.2.2.2.2.2.2.2.1,(bW s).sv.2.2.2.2.2.2.2.2.2.1,(bW s).sv.2.2.2.2.2.2.2.2.2.2.1,(bW s).sv.2.2.2.2.2.2.2.2.2.2.2.1,(bW s).sv.2.2.2.2.2.2.2.2.2.2.2.2.1,(bW s).sv.2.2.2.2.2.2.2.2.2.2.2.2.2,s.tabs.1,s.tabs.2.1,s.tabs.2.2.1,s.tabs.2.2.2):=by
   unfold bW
   cases ba s.modes <;> rfl
  rw [e]
  exact ⟨rfl,gZ (BE h)⟩
 | false=>
 simp only [cond_false]
 cases h6:(ch.1==20) with
 | true=>
  simp only [cond_true]
  rw [IZ h]
  have f0:(oM ch.2.1 (ch.2.2.1 !=0) s).rows=s.rows/\(oM ch.2.1 (ch.2.2.1 !=0) s).cols=s.cols/\(oM ch.2.1 (ch.2.2.1 !=0) s).top=s.top/\(oM ch.2.1 (ch.2.2.1 !=0) s).bottom=s.bottom/\(oM ch.2.1 (ch.2.2.1 !=0) s).tabs=s.tabs/\(oM ch.2.1 (ch.2.2.1 !=0) s).title=s.title:=by
   unfold oM
   cases pV ch.2.1 with
   | true=>exact ⟨rfl,rfl,rfl,rfl,rfl,rfl⟩
   | false=>
    unfold bx bW
    cases ((ch.2.1==128) && !((aj .and .i64 s.modes ch.2.1 !=0)==(ch.2.2.1 !=0))) <;> cases (ch.2.2.1 !=0) <;> cases ba s.modes <;> cases (ch.2.1==2) <;> cases (ch.2.1==128) <;> cases (aj .and .i64 s.modes ch.2.1 !=0) <;> exact ⟨rfl,rfl,rfl,rfl,rfl,rfl⟩
  obtain ⟨f1,f2,f3,f4,f5,f6⟩:=f0
  refine ⟨?_,gZ (G7 h _ _)⟩
  unfold Sc.f
  rw [f1,f2,f3,f4,f5,f6]
  rfl
 | false=>
 simp only [cond_false]
 cases h7:(ch.1==22) with
 | true=>
  simp only [cond_true]
  rw [w7 hR hC h.sz]
  exact ⟨rfl,gZ (vg h)⟩
 | false=>
 simp only [cond_false]
 cases h8:(ch.1==24) with
 | true=>
  simp only [cond_true]
  have e:ju s.rows s.cols=some (s.rows,s.cols,s.rows-1,9,(sk C).1,(sk C).2.1,(sk C).2.2.1,(sk C).2.2.2,0,dW R C (0,0,0)):=by
   unfold ju
   rw [hR,hC,pX,gb (by omega) (by omega) (by decide)]
   simp only [Option.bind_some,bt]
   have e:((((dW R C (0,0,0)).length:Nat):Int)==0)=false:=by
    unfold dW;simp;omega
   erw [e]
   simp only [cond_false,Option.bind_some]
   rw [mq (by omega)]
   simp only [Option.bind_some,rleq,aM]
   rw [aD (by omega)]
  rw [e]
  refine ⟨?_,?_⟩
  ·simp only [Option.bind_some]
   unfold lG
   rw [hR,hC]
   rfl
  ·have:=sS h.sz
   rw [hR,hC]
   exact gZ this
 | false=>
 simp only [cond_false]
 cases h9:(decide (ch.1>=1)&&decide (ch.1<=27)) with
 | true=>
  simp only [cond_true]
  obtain ⟨q1,⟨q2,q3,q4⟩,q5⟩:=IY h.env h.inG h.tabs hn s.modes s.main s.title
  have hms:OkS (kE ch s) R C:=by
   refine ⟨h.hr,h.hc,h.sz,?_,h.m,?_,?_,by intro hl;simp [kE] at hl,h.top,h.bot,h.tb,h.md,h.pen,h.s0,h.s1,h.ti,h.tabs⟩
   ·unfold kE;rw [hR,hC];exact q2
   ·unfold kE;rw [hR,hC];exact q3
   ·unfold kE;rw [hR,hC];exact q4
  rw [<-hR,<-hC] at q1 q5
  rw [q1]
  simp only [Option.bind_some]
  rw [q5]
  obtain ⟨e1,e2⟩:=Jf hms rfl hn
  have e1':db ch s.rows s.cols (oK ch s.rows s.cols s.row s.col false s.pen s.top s.bottom s.modes s.tabs s.grid).2.1 (oK ch s.rows s.cols s.row s.col false s.pen s.top s.bottom s.modes s.tabs s.grid).2.2.1 false s.pen.1 s.pen.2.1 s.pen.2.2 s.top s.bottom s.modes s.sv0.1 s.tabs.1 s.tabs.2.1 s.tabs.2.2.1 s.tabs.2.2.2 (oK ch s.rows s.cols s.row s.col false s.pen s.top s.bottom s.modes s.tabs s.grid).1 s.main s.title=some (pP ch (kE ch s)).e:=e1
  rw [e1']
  refine ⟨?_,e2⟩
  have f0:(pP ch (kE ch s)).pen=s.pen/\(pP ch (kE ch s)).modes=s.modes/\(pP ch (kE ch s)).sv0=s.sv0/\(pP ch (kE ch s)).sv1=s.sv1/\(pP ch (kE ch s)).title=s.title:=by
   unfold pP
   cases ch.1==11 <;> cases ch.1==12 <;> cases ch.1==13 <;> first
    | exact ⟨rfl,rfl,rfl,rfl,rfl⟩
    | (cases ch.1==14 <;> cases ch.1==15 <;> cases ((ch.1==16)||(ch.1==17)) <;> first
      | exact ⟨rfl,rfl,rfl,rfl,rfl⟩
      | (cases (decide ((kE ch s).row<(kE ch s).top)||decide ((kE ch s).row>(kE ch s).bottom)) <;> exact ⟨rfl,rfl,rfl,rfl,rfl⟩)
      | (cases ch.1==18 <;> cases ch.1==19 <;> cases ch.1==23 <;> cases ch.1==27 <;> first
        | exact ⟨rfl,rfl,rfl,rfl,rfl⟩
        | (cases (decide (ch.2.1>=0)&&(decide (ch.2.1<ch.2.2.1)&&decide (ch.2.2.1<(kE ch s).rows))) <;> exact ⟨rfl,rfl,rfl,rfl,rfl⟩)))
  obtain ⟨f1,f2,f3,f4,f5⟩:=f0
  simp only [Option.bind_some]
  unfold Sc.f
  rw [f1,f2,f3,f4,f5]
  rfl
 | false=>exact ⟨rfl,gZ h⟩
end Go.SH
namespace Go.SH
open IntKind (i64 u64 i32 u8)
def oneM (s:Sc) (ch:ChT):Sc:=wB (iZ ch) s
def fQ (l:List ChT) (s:Sc):Sc:=l.foldl oneM s
theorem zj (ch:ChT):(iZ ch).1=ch.1:=by
 unfold iZ
 cases ((ch.1 !=20)&&(ch.1 !=27)) <;> rfl
theorem IW (ch:ChT):(iZ ch).2.2.2=ch.2.2.2:=by
 unfold iZ
 cases ((ch.1 !=20)&&(ch.1 !=27)) <;> rfl
theorem ED (ch:ChT):chN (iZ ch):=by
 intro h1 h2
 rw [zj] at h1 h2
 have e:((ch.1 !=20)&&(ch.1 !=27))=true:=by simp [h1,h2]
 have b1:=lS (n:=ch.2.1) (lo:=-1000) (hi:=1000) (by omega)
 have b2:=lS (n:=ch.2.2.1) (lo:=-1000) (hi:=1000) (by omega)
 unfold iZ
 rw [e]
 exact ⟨b1,b2⟩
theorem EE {ch:ChT} (h:chL ch):chL (iZ ch):=by
 unfold chL at *
 rw [IW];exact h
theorem IT {s:Sc} {R C:Nat} (h:OkS s R C) {ch:ChT} (hl:chL ch):CK ch (oneM s ch) R C:=by
 obtain ⟨_,R',C',h1,h2⟩:=zL h (ED ch) (EE hl)
 rw [zj] at h2
 exact ⟨R',C',h1,h2⟩
theorem Ca:∀(l:List ChT) {s:Sc} {R C:Nat},OkS s R C->(∀ch∈l,chL ch)->vz l s.t=some (fQ l s).t/\∃R' C',OkS (fQ l s) R' C'
 | [],s,R,C,h,_=>⟨rfl,R,C,h⟩
 | ch::r,s,R,C,h,hl=>by
  obtain ⟨h1,R',C',h2,_⟩:=zL h (ED ch) (EE (hl ch (by simp)))
  have:=Ca r h2 (fun c hc=>hl c (by simp [hc]))
  unfold vz
  rw [KM,h1]
  simp only [Option.bind_some,Gv]
  exact this
theorem Ia {s:Sc} {R C:Nat} (h:OkS s R C) {l:List ChT} (hb:l.length<=1000000) (hl:∀ch∈l,chL ch):gR s.t l=some (fQ l s).t/\∃R' C',OkS (fQ l s) R' C':=by
 rw [Mg h.may hb]
 exact Ca l h hl
theorem E6 {R C:Nat} (h:szR R C):jQ (R:Int) (C:Int)=some ((lG R C).t,0):=by
 unfold szR at h
 exact yz ⟨h.1,h.2.1⟩ ⟨h.2.2.1,h.2.2.2⟩
theorem zx (a b:List ChT) (s:Sc):fQ (a++b) s=fQ b (fQ a s):=by unfold fQ;rw [List.foldl_append]
instance lineDec:DecidableEq (List aq):=@instDecidableEqList aq inferInstance
instance gridDec:DecidableEq aw:=@instDecidableEqList (List aq) lineDec
theorem A9 {α:Type} [DecidableEq α] {a b:List α} (h:a.length=b.length):(List.range a.length).all (fun i=>decide (a[i]?=b[i]?))=decide (a=b):=by
 rw [Bool.eq_iff_iff]
 simp only [List.all_eq_true,List.mem_range,decide_eq_true_eq]
 constructor
 ·intro hh
  refine List.ext_getElem? fun i=>?_
  by_cases hi:i<a.length
  ·exact hh i hi
  ·rw [List.getElem?_eq_none (by omega),List.getElem?_eq_none (by omega)]
 ·rintro rfl i _;rfl
theorem HY (x y:aq):((x.1==y.1)&&(((x.2.1.1==y.2.1.1)&&((x.2.1.2==y.2.1.2)&&true))&&((x.2.2.1==y.2.2.1)&&(((x.2.2.2.1==y.2.2.2.1)&&((x.2.2.2.2.1==y.2.2.2.2.1)&&((x.2.2.2.2.2==y.2.2.2.2.2)&&true)))&&true))))=decide (x=y):=by
 obtain ⟨x1,⟨x2,x3⟩,x4,x5,x6,x7⟩:=x
 obtain ⟨y1,⟨y2,y3⟩,y4,y5,y6,y7⟩:=y
 rw [Bool.eq_iff_iff]
 simp only [Bool.and_eq_true,beq_iff_eq,and_true,decide_eq_true_eq,Prod.mk.injEq,and_assoc]
abbrev big:Nat:=4611686018427387904
theorem wr1 {i n:Nat} (h:i<n) (hn:n<=big):i64.wrap ((i:Int)+1)=((i+1:Nat):Int):=by unfold big at hn;rw [aD (by omega)];rfl
theorem Ds {a b:Nat} (h:a≠b):((a:Int) !=(b:Int))=true:=by simp;omega
theorem Dt {a b:Nat} (h:a=b):((a:Int) !=(b:Int))=false:=by simp [h]
theorem Bd {a b:List aq} (ha:a.length<=big):gO a b=some (decide (a=b)):=by
 unfold gO
 simp only [bt,Option.bind_some]
 by_cases h:a.length=b.length
 ·rw [Dt h]
  simp only [cond_false]
  rw [sW (step:=dA a b) (n:=a.length) (ok:=fun i=>decide (a[i]?=b[i]?)) (e:=.inr ()) (b:=.inl ()) (fun i hi=>by
   unfold dA
   rw [aG (by omega:(i:Int)<(a.length:Int))]
   simp only [bt,Option.bind_some,cond_true,bo,List.getElem?_eq_getElem hi,List.getElem?_eq_getElem (h▸hi:i<b.length),HY,Option.some.injEq,wr1 hi ha]
   cases decide (a[i]=b[i]) <;> rfl) (by unfold dA;simp),A9 h]
  cases decide (a=b) <;> rfl
 ·rw [Ds h,aU (fun e=>h (by rw [e]))];rfl
theorem Bc {a b:List Int} (ha:a.length<=big):gN a b=some (decide (a=b)):=by
 unfold gN
 simp only [bt,Option.bind_some]
 by_cases h:a.length=b.length
 ·rw [Dt h]
  simp only [cond_false]
  rw [sW (step:=dx a b) (n:=a.length) (ok:=fun i=>decide (a[i]?=b[i]?)) (e:=.inr ()) (b:=.inl ()) (fun i hi=>by
   unfold dx
   rw [aG (by omega:(i:Int)<(a.length:Int))]
   simp only [bt,Option.bind_some,cond_true,bo,List.getElem?_eq_getElem hi,List.getElem?_eq_getElem (h▸hi:i<b.length),Option.some.injEq,wr1 hi ha]
   by_cases e:a[i]=b[i]
   ·rw [aG e,e];simp
   ·rw [aU e]
    have:(a[i] !=b[i])=true:=by simp [e]
    rw [this];rfl) (by unfold dx;simp),A9 h]
  cases decide (a=b) <;> rfl
 ·rw [Ds h,aU (fun e=>h (by rw [e]))];rfl
def small (g:aw):Prop:=g.length<=big/\∀l∈g,l.length<=big
theorem Be {a b:aw} (ha:small a):d9 a b=some (decide (a=b)):=by
 unfold d9
 simp only [bt,Option.bind_some]
 by_cases h:a.length=b.length
 ·rw [Dt h]
  simp only [cond_false]
  rw [sW (step:=cG a b) (n:=a.length) (ok:=fun i=>decide (a[i]?=b[i]?)) (e:=.inr ()) (b:=.inl ()) (fun i hi=>by
   unfold cG pF
   rw [aG (by omega:(i:Int)<(a.length:Int))]
   simp only [bt,Option.bind_some,cond_true,bo,List.getElem?_eq_getElem hi,List.getElem?_eq_getElem (h▸hi:i<b.length),Option.some.injEq,wr1 hi ha.1]
   rw [Bd (ha.2 _ (List.getElem_mem hi))]
   simp only [Option.bind_some]
   cases decide (a[i]=b[i]) <;> rfl) (by unfold cG;simp),A9 h]
  cases decide (a=b) <;> rfl
 ·rw [Ds h,aU (fun e=>h (by rw [e]))];rfl
theorem vu {a b:aw} (ha:small a):nz [a,b]=some (decide (a=b)):=by
 have e0:getI [a,b] 0=some a:=rfl
 have e1:getI [a,b] 1=some b:=rfl
 have s1:fP [a,b] 1=some (bif decide (a=b) then .inr 2 else .inl (.inl ())):=by
  unfold fP
  rw [aG (by simp:(1:Int)<(([a,b]:List aw).length:Int))]
  simp only [bt,Option.bind_some,cond_true]
  erw [e0,e1]
  simp only [Option.bind_some]
  rw [Be ha]
  simp only [Option.bind_some]
  rw [aD (by omega)]
  cases decide (a=b) <;> rfl
 have s2:fP [a,b] 2=some (.inl (.inr ())):=by
  unfold fP
  rw [aU (by simp:¬(2:Int)<(([a,b]:List aw).length:Int))]
  rfl
 unfold nz
 rw [aL,s1]
 cases decide (a=b) with
 | false=>rfl
 | true=>
  simp only [cond_true]
  rw [aL,s2]
  rfl
theorem vT {s:ScrT} (h1:small s.2.2.1) (h2:small s.2.2.2.1) (h3:s.2.2.2.2.2.2.2.2.2.2.2.2.2.length<=big):kC s s=some true:=by
 unfold kC
 rw [vu h1,vu h2,Bc h3]
 simp only [decide_true,Option.bind_some,Bool.not_true,cond_false,beq_self_eq_true,Bool.and_true,cond_true]
theorem BA {g:aw} {R C:Nat} (h:gok g R C) (hs:szR R C):small g:=by
 unfold szR at hs
 unfold small big
 refine ⟨by rw [h.1];omega,fun l hl=>by rw [(h.2 l hl).1];omega⟩
theorem Fn:small []:=by unfold small;simp
theorem OkS.small {s:Sc} {R C:Nat} (h:OkS s R C):small s.grid/\small s.main/\s.title.length<=big:=by
 refine ⟨BA h.g h.sz,?_,?_⟩
 ·rcases h.m with ⟨_,m⟩ | ⟨_,m⟩
  ·exact BA m h.sz
  ·rw [m];exact Fn
 ·have:=h.ti
  simp only [du,Bool.and_eq_true,decide_eq_true_eq] at this
  unfold big;omega
theorem OkS.same {s:Sc} {R C:Nat} (h:OkS s R C):kC s.t s.t=some true:=vT h.small.1 h.small.2.1 h.small.2.2
end Go.SH
set_option maxRecDepth 4000
namespace Go.SH
open IntKind (i64 u64 i32 u8)
def Tot {α:Type} (o:Option α) (P:α->Prop):Prop:=∃r,o=some r/\P r
theorem Tot.bind {α β:Type} {o:Option α} {f:α->Option β} {P:α->Prop} {Q:β->Prop} (h:Tot o P) (k:∀r,P r->Tot (f r) Q):Tot (o.bind f) Q:=by
 obtain ⟨r,rfl,hp⟩:=h
 exact k r hp
theorem Tot.ret {α:Type} {r:α} {P:α->Prop} (h:P r):Tot (some r) P:=⟨r,rfl,h⟩
theorem Tot.cnd {α:Type} {c:Bool} {a b:Option α} {P:α->Prop} (h1:c=true->Tot a P) (h2:c=false->Tot b P):Tot (bif c then a else b) P:=by
 cases c
 ·exact h2 rfl
 ·exact h1 rfl
theorem Tot.rq {α:Type} {c:Prop} [Decidable c] {o:Option α} {P:α->Prop} (h:c) (k:Tot o P):Tot (req c o) P:=by
 rw [ae h];exact k
theorem Tot.mp {α β:Type} {o:Option α} {f:α->β} {P:β->Prop} (h:Tot o fun r=>P (f r)):Tot (Option.map f o) P:=by
 obtain ⟨r,rfl,hp⟩:=h
 exact ⟨_,rfl,hp⟩
theorem Tot.ext {α:Type} {o:Option α} {P:α->Prop} {d:α} (h:Tot o P):o=some (o.getD d)/\P (o.getD d):=by
 obtain ⟨r,rfl,hp⟩:=h
 exact ⟨rfl,hp⟩
theorem zm {α A S R:Type} {step:Int×S->Option (R⊕(Int×S))} {l:List α} {enc:A->S} {f:A->α->A} {I:Nat->A->Prop} {e:A->R} 
  (hin:∀(i:Nat) (a:A) (x:α),l[i]?=some x->I i a->step ((i:Int),enc a)=some (.inr (((i+1:Nat):Int),enc (f a x)))/\I (i+1) (f a x))
  (hend:∀a,I l.length a->step ((l.length:Int),enc a)=some (.inl (e a))):∀(m i:Nat) (a:A),i+m=l.length->I i a ->
   aH step ((i:Int),enc a)=some (e ((l.drop i).foldl f a))/\I l.length ((l.drop i).foldl f a)
 | 0,i,a,h,hi=>by
  have:i=l.length:=by omega
  subst this
  rw [aL,hend a hi]
  simp [hi]
 | m+1,i,a,h,hi=>by
  have hlt:i<l.length:=by omega
  obtain ⟨h1,h2⟩:=hin i a l[i] (by simp [hlt]) hi
  rw [aL,h1]
  have:=zm hin hend m (i+1) (f a l[i]) (by omega) h2
  rw [List.drop_eq_getElem_cons hlt]
  exact this
theorem oa {α A S R:Type} {step:Int×S->Option (R⊕(Int×S))} {l:List α} {enc:A->S} {f:A->α->A} {I:Nat->A->Prop} {e:A->R} 
  (hin:∀(i:Nat) (a:A) (x:α),l[i]?=some x->I i a->step ((i:Int),enc a)=some (.inr (((i+1:Nat):Int),enc (f a x)))/\I (i+1) (f a x))
  (hend:∀a,I l.length a->step ((l.length:Int),enc a)=some (.inl (e a))) (a:A) (hi:I 0 a) :
   aH step ((0:Int),enc a)=some (e (l.foldl f a))/\I l.length (l.foldl f a):=by
 have:=zm hin hend l.length 0 a (by omega) hi
 simpa using this
abbrev DecT:=Int×Int×Int×UInt8×UInt8
def dF (x:UInt8):Bool×DecT:=(cf x).getD (false,0,0,0,0,0)
def J5 (b:Bool×DecT):Bool:=bif b.1 then (b.2.2.1==1)&&(decide (128<=b.2.2.2.2.1.toNat)) else (b.2.2.1==0)
theorem F2:∀n:_root_.Fin 256,((cf (UInt8.ofNat n.val)).isSome&&J5 (dF (UInt8.ofNat n.val)))=true:=by decide +kernel
theorem H1 (x:UInt8):cf x=some (dF x)/\J5 (dF x)=true:=by
 have h:=F2 ⟨x.toNat,x.toNat_lt⟩
 rw [show UInt8.ofNat (⟨x.toNat,x.toNat_lt⟩:_root_.Fin 256).val=x from UInt8.ofNat_toNat] at h
 rw [Bool.and_eq_true] at h
 refine ⟨?_,h.2⟩
 obtain ⟨v,hv⟩:=Option.isSome_iff_exists.1 h.1
 unfold dF
 rw [hv];rfl
def decF (o:List Int) (b:Bool×DecT):List Int×DecT:=
 bif decide (b.2.2.1>0)&&(b.2.2.1==b.2.2.2.1) then ((bif b.1 then o else o++[65533])++[b.2.1],0,0,0,0,0) else (bif b.1 then o else o++[65533],b.2)
def decC (d:DecT) (x:UInt8):Int:=aj .or .i32 (i32.wrap (d.1*2^6)) (i32.wrap ((UInt8.ofInt (aj .and .u8 (x.toNat:Int) 63)).toNat:Int))
def decS (d:DecT) (x:UInt8):List Int×DecT:=
 bif d.2.1==0 then decF [] (dF x)
 else bif decide ((x.toNat:Int)>=(d.2.2.2.1.toNat:Int))&&decide ((x.toNat:Int)<=(d.2.2.2.2.toNat:Int)) then
  bif decide ((i64.wrap (d.2.1+1))>0)&&((i64.wrap (d.2.1+1))==d.2.2.1) then ([decC d x],0,0,0,0,0) else ([],decC d x,i64.wrap (d.2.1+1),d.2.2.1,128,191)
 else decF [65533] (dF x)
def decG (a:List Int×DecT) (x:UInt8):List Int×DecT:=(a.1++(decS a.2 x).1,(decS a.2 x).2)
def decA (d:DecT) (b:List UInt8):List Int×DecT:=b.foldl decG ([],d)
theorem Cq (o:List Int) (b:Bool×DecT):(decF o b).1.length<=o.length+2:=by
 unfold decF
 cases (decide (b.2.2.1>0)&&(b.2.2.1==b.2.2.2.1)) <;> cases b.1 <;> simp
theorem Cp (d:DecT) (x:UInt8):(decS d x).1.length<=3:=by
 unfold decS
 cases (d.2.1==0)
 ·cases (decide ((x.toNat:Int)>=(d.2.2.2.1.toNat:Int))&&decide ((x.toNat:Int)<=(d.2.2.2.2.toNat:Int)))
  ·exact Cq _ _
  ·cases (decide ((i64.wrap (d.2.1+1))>0)&&((i64.wrap (d.2.1+1))==d.2.2.1)) <;> simp
 ·exact Nat.le_trans (Cq _ _) (by simp)
theorem Cr (o q:List Int) (b:Bool×DecT):decF (o++q) b=(o++(decF q b).1,(decF q b).2):=by
 unfold decF
 cases (decide (b.2.2.1>0)&&(b.2.2.1==b.2.2.2.1)) <;> cases b.1 <;> simp
theorem qu:∀(b:List UInt8) (o:List Int) (d:DecT),b.foldl decG (o,d)=(o++(decA d b).1,(decA d b).2)
 | [],o,d=>by simp [decA]
 | x::r,o,d=>by
  have h1:(x::r).foldl decG (o,d)=r.foldl decG (o++(decS d x).1,(decS d x).2):=rfl
  have h2:decA d (x::r)=r.foldl decG ([]++(decS d x).1,(decS d x).2):=rfl
  rw [h2,h1,qu r,qu r]
  simp
theorem Cs (d:DecT) (a b:List UInt8):decA d (a++b)=((decA d a).1++(decA (decA d a).2 b).1,(decA (decA d a).2 b).2):=by
 have:decA d (a++b)=b.foldl decG (decA d a):=by unfold decA;rw [List.foldl_append]
 rw [this,show decA d a=((decA d a).1,(decA d a).2) from rfl,qu]
theorem FN (d:DecT) (x:UInt8) (r:List UInt8):decA d (x::r)=((decS d x).1++(decA (decS d x).2 r).1,(decA (decS d x).2 r).2):=by
 have h2:decA d (x::r)=r.foldl decG ([]++(decS d x).1,(decS d x).2):=rfl
 rw [h2,qu,List.nil_append]
theorem tJ:∀(b:List UInt8) (d:DecT),(decA d b).1.length<=3*b.length
 | [],d=>by simp [decA]
 | x::r,d=>by
  rw [FN,List.length_append,List.length_cons]
  have:=Cp d x
  have:=tJ r (decS d x).2
  omega
theorem xy {α:Type} {l:List α} {k n:Nat} (h:l.length<=n) (hk:n*k<=aI):l.length*k<=aI:=Nat.le_trans (Nat.mul_le_mul_right k h) hk
theorem LW:(3*1000000+100)*4<=aI:=by decide
theorem HD {b:List UInt8} (hb:b.length<=1000000) (i:Nat) (a:List Int×DecT) (x:UInt8) (hx:b[i]?=some x) (hi:a.1.length<=3*i) :
  bV b ((i:Int),a.1,a.2.1,a.2.2.1,a.2.2.2.1,a.2.2.2.2.1,a.2.2.2.2.2)=some (.inr (((i+1:Nat):Int),(decG a x).1,(decG a x).2.1,(decG a x).2.2.1,(decG a x).2.2.2.1,(decG a x).2.2.2.2.1,(decG a x).2.2.2.2.2)):=by
 have hlt:i<b.length:=(List.getElem?_eq_some_iff.1 hx).1
 obtain ⟨hbg,hbo⟩:=H1 x
 have B:∀{l:List Int},l.length<=3*i+10->l.length*4<=aI:=fun h=>xy h (Nat.le_trans (Nat.mul_le_mul_right 4 (by omega)) LW)
 unfold bV
 simp only [bt]
 simp only [bt2,Bool.and_true,Option.bind_some,bo,hx,aG (show (i:Int)<(b.length:Int) by omega),cond_true,rleq,aM,hbg,wr1 hlt (Nat.le_trans hb (by decide))]
 unfold decG decS
 obtain ⟨o,c,h,w,lo,hh⟩:=a
 simp only at hi ⊢
 have fin:∀q:List Int,q.length<=3*i+5->((bif !(dF x).1 then
   some (true,(dF x).2.1,(dF x).2.2.1,(dF x).2.2.2.1,(dF x).2.2.2.2.1,(dF x).2.2.2.2.2)
   else some (false,(dF x).2.1,(dF x).2.2.1,(dF x).2.2.2.1,(dF x).2.2.2.2.1,(dF x).2.2.2.2.2):Option (Bool×DecT)).bind fun x81=>
    bif x81.1 then req ((q++[65533]).length*4<=aI) (some (q++[65533],x81.2.1,x81.2.2.1,x81.2.2.2.1,x81.2.2.2.2.1,x81.2.2.2.2.2))
    else some (q,x81.2.1,x81.2.2.1,x81.2.2.2.1,x81.2.2.2.2.1,x81.2.2.2.2.2))=some (bif (dF x).1 then q else q++[65533],(dF x).2):=by
  intro q hq
  cases (dF x).1
  ·simp only [Bool.not_false,cond_true,Option.bind_some,cond_false]
   rw [ae (B (by simp;omega))]
  ·rfl
 have fin2:∀q:List Int,q.length<=3*i+6->∀p:DecT,(bif decide (p.2.1>0)&&(p.2.1==p.2.2.1) then req ((q++[p.1]).length*4<=aI) (some (q++[p.1],0,0,0,0,0)) else some (q,p.1,p.2.1,p.2.2.1,p.2.2.2.1,p.2.2.2.2):Option (List Int×DecT)) =
   some (bif decide (p.2.1>0)&&(p.2.1==p.2.2.1) then (q++[p.1],0,0,0,0,0) else (q,p)):=by
  intro q hq p
  cases (decide (p.2.1>0)&&(p.2.1==p.2.2.1))
  ·rfl
  ·simp only [cond_true]
   rw [ae (B (by simp;omega))]
 have e1:∀q:List Int,q.length<=3*i+5->(bif (dF x).1 then q else q++[65533]).length<=3*i+6:=by
  intro q hq;cases (dF x).1 <;> simp <;> omega
 cases h0:(h==0) with
 | true=>
  simp only [cond_true]
  rw [fin o (by omega)]
  simp only [Option.bind_some]
  rw [fin2 _ (e1 o (by omega))]
  simp only [Option.bind_some]
  have k:=Cr o [] (dF x)
  rw [List.append_nil] at k
  unfold decF at k ⊢
  rw [<-k]
 | false=>
  simp only [cond_false]
  cases hr:(decide ((x.toNat:Int)>=(lo.toNat:Int))&&decide ((x.toNat:Int)<=(hh.toNat:Int))) with
  | true=>
   simp only [cond_true]
   have k:=fin2 o (by omega) (decC (c,h,w,lo,hh) x,i64.wrap (h+1),w,128,191)
   unfold decC at k
   simp only at k
   rw [k]
   simp only [Option.bind_some]
   unfold decC
   cases (decide ((i64.wrap (h+1))>0)&&((i64.wrap (h+1))==w)) <;> simp
  | false=>
   simp only [cond_false]
   rw [ae (B (by simp;omega))]
   rw [fin (o++[65533]) (by simp;omega)]
   simp only [Option.bind_some]
   rw [fin2 _ (e1 (o++[65533]) (by simp;omega))]
   simp only [Option.bind_some]
   have k:=Cr o [65533] (dF x)
   unfold decF at k ⊢
   rw [<-k]
theorem HE {b:List UInt8} (hb:b.length<=1000000) (d:DecT):dt b d.1 d.2.1 d.2.2.1 d.2.2.2.1 d.2.2.2.2=some (decA d b):=by
 unfold dt
 have h:=oa (l:=b) (step:=bV b) (enc:=fun a:List Int×DecT=>(a.1,a.2.1,a.2.2.1,a.2.2.2.1,a.2.2.2.2.1,a.2.2.2.2.2)) (f:=decG) (I:=fun i a=>a.1.length<=3*i) (e:=fun a=>(a.1,a.2.1,a.2.2.1,a.2.2.2.1,a.2.2.2.2.1,a.2.2.2.2.2))
  (fun i a x hx hi=>⟨HD hb i a x hx hi,by unfold decG;have:=Cp a.2 x;simp;omega⟩)
  (fun a ha=>by unfold bV;simp only [bt,Option.bind_some,aU (show ¬((b.length:Int)<(b.length:Int)) by omega),cond_false,rleq,aM]) ([],d) (by simp)
 have h1:=h.1
 simp only at h1
 rw [h1]
 simp only [Option.bind_some,rleq]
 rfl
end Go.SH
set_option maxRecDepth 8000
namespace Go.SH
open IntKind (i64 u64 i32 u8)
abbrev ActT:=bI.T
abbrev ParT:=List Int×List Int×Nat×Bool×Bool×Bool×Bool×Bool×Int×List UInt8
def nH (a:ActT):Prop:=a.2.2.2.1.length<=2/\a.2.2.2.2.1.length<=17/\a.2.2.2.2.2.length<=64/\0<=a.2.1
def zP:ParT:=([],[],0,false,false,false,false,false,0,[])
structure ParOK (p:ParT):Prop where
 pa:p.1.length<=17
 te:p.2.1.length<=64
 st:p.2.2.1<=3
 asked:p.2.2.2.2.2.2.2.1=true->p.1≠[]
 it:p.2.2.2.2.2.2.2.2.2.length<=2
 z:p.2.2.1=0->p=zP
def ia (n:Nat) (l:List ActT):Prop:=l.length<=n/\∀a∈l,nH a
theorem ParOK.new (s:Nat) (hs:s<=3) (hz:s≠0) (b1 b2 b3:Bool):ParOK ([],[],s,b1,b2,b3,false,false,0,[]):=⟨by simp,by simp,hs,by simp,by simp,fun e=>absurd e hz⟩
theorem ParOK.zero:ParOK zP:=⟨by simp [zP],by simp [zP],by simp [zP],by simp [zP],by simp [zP],fun _=>rfl⟩
theorem bd4 {α:Type} {l:List α} (h:l.length<=1000):l.length*4<=aI:=xy h (by decide)
theorem bd8 {α:Type} {l:List α} (h:l.length<=1000):l.length*8<=aI:=xy h (by decide)
theorem bd80 {α:Type} {l:List α} (h:l.length<=1000000):l.length*80<=aI:=xy h (by decide)
theorem bq (a b c:Bool):(bif a then some b else some c:Option Bool)=some (bif a then b else c):=by cases a <;> rfl
theorem bi (c:Bool):(bif c then true else false)=c:=by cases c <;> rfl
theorem oR (n:Nat):ia n []:=⟨by simp,by simp⟩
theorem rL {c:Int} (hc:0<=c):Tot (fU c) (ia 1):=by
 unfold fU
 simp only [bq,bi,Option.bind_some,rleq,aM]
 refine .cnd (fun _=>.ret (oR _)) fun _=>.cnd (fun _=>.rq rfl (.ret ?_)) fun _=>.rq rfl (.ret ?_)
 ·exact ⟨by simp,by intro a ha;simp at ha;subst ha;exact ⟨by simp,by simp,by simp,hc⟩⟩
 ·exact ⟨by simp,by intro a ha;simp at ha;subst ha;exact ⟨by simp,by simp,by simp,hc⟩⟩
theorem FZ {l:List Int} (h:l.length<=1000):fh l=some l:=by
 unfold fh;exact ae (bd4 h)
theorem EO {s t:Bool} {l:List Int} (h:l.length<=64):Tot (d7 s t l) (ia 1):=by
 unfold d7
 simp only [bq,bi,Option.bind_some,rleq,aM,FZ (show l.length<=1000 by omega)]
 refine .cnd (fun _=>.ret (oR _)) fun _=>.rq rfl (.ret ?_)
 exact ⟨by simp,by intro a ha;simp at ha;subst ha;exact ⟨by simp,by simp,h,by simp⟩⟩
theorem Gx {c:Int} {p:ParT} (h:ParOK p) (hz:p.2.2.1≠0):Tot (iU c p.2.2.1 p.2.2.2.1 p.2.2.2.2.1 p.2.2.2.2.2.1 p.2.2.2.2.2.2.1 p.2.2.2.2.2.2.2.1 p.2.2.2.2.2.2.2.2.1 p.2.2.2.2.2.2.2.2.2 p.1 p.2.1) fun r=>ia 1 r.1/\ParOK r.2:=by
 unfold iU
 simp only [bq,bi,Option.bind_some,rleq,aM]
 refine Tot.bind (P:=fun o=>match o with | .inr r=>ia 1 r.1/\ParOK r.2 | .inl t=>t.length<=64) ?_ ?_
 ·refine .cnd (fun _=>?_) fun _=>?_
  ·refine .bind (EO h.te) fun x hx=>.mp (.ret ⟨hx,ParOK.zero⟩)
  ·refine .cnd (fun hb=>?_) fun _=>.ret h.te
   have h2:((p.2.1.length:Nat):Int)<64:=by
    cases h1:decide (((p.2.1.length:Nat):Int)<64) with
    | true=>simpa using h1
    | false=>rw [h1] at hb;revert hb;cases (decide (c>=32)) <;> cases (c !=127) <;> simp
   refine .rq (bd4 (by simp;omega)) (.ret ?_)
   show (p.2.1++[c]).length<=64
   simp;omega
 ·intro o ho
  match o,ho with
  | .inr r,ho=>exact .ret ho
  | .inl t,ho=>exact .ret ⟨oR _,⟨h.pa,ho,h.st,h.asked,h.it,fun e=>absurd e hz⟩⟩
theorem w32 (x:Int):i32.wrap x=(x+2147483648) % 4294967296-2147483648:=by
 simp [IntKind.wrap,IntKind.signed,IntKind.bits]
 omega
theorem K0 {x:Int} (h:-2147483648<=x/\x<=2147483647):i32.wrap x=x:=by rw [w32];omega
theorem Fq:∀n:_root_.Fin 48,(bQ [(n.val:Int)]).length=1:=by decide +kernel
theorem IB {c:Int} (h0:0<=c) (h1:c<48):(bQ [c]).length=1:=by
 obtain ⟨n,rfl⟩:∃n:Nat,c=n:=⟨c.toNat,by omega⟩
 exact Fq ⟨n,by omega⟩
theorem vE {c:Int} (h0:0<=c) (h1:c<48) {v:Bool} {l:List UInt8} (h:l.length<=2):Tot (cO c v l) fun r=>r.2.length<=2:=by
 unfold cO
 simp only [bq,bi,Option.bind_some,rleq,aM]
 refine .cnd (fun _=>.ret h) fun hb=>?_
 have hl:l.length≠2:=by
  intro e;rw [e] at hb;simp at hb
 have:=IB h0 h1
 refine .rq (by omega) (.ret ?_)
 simp;omega
theorem Fx {c:Int} {ak:Bool} {l:List Int} (hl:l.length<=17) (ha:ak=true->l≠[]):Tot (fd c ak l) fun r=>r.1.length<=17/\r.1≠[]:=by
 unfold fd
 simp only [bq,bi,Option.bind_some,rleq,aM]
 refine Tot.bind (P:=fun r=>r.1.length<=17/\r.1≠[]) ?_ ?_
 ·refine .cnd (fun _=>.ret (by simp)) fun hb=>.ret ⟨hl,ha (by cases ak <;> simp_all)⟩
 ·intro x hx
  obtain ⟨l,b⟩:=x
  simp only at hx ⊢
  have hpos:0<l.length:=List.length_pos_iff.2 hx.2
  have hw:i64.wrap ((l.length:Int)-1)=(l.length:Int)-1:=aD (by have:=hx.1;omega)
  rw [hw]
  have hn:((l.length:Int)-1).toNat=l.length-1:=by omega
  rw [hn]
  have hg:l[l.length-1]?=some l[l.length-1]:=by simp
  rw [hg]
  simp only [Option.bind_some]
  refine .cnd (fun _=>?_) fun _=>.cnd (fun hb=>?_) fun _=>.ret hx
  ·refine .rq (by omega) (.rq (by omega) (.rq (by simp) (.ret ?_)))
   simp only [List.length_set]
   refine ⟨hx.1,?_⟩
   intro e
   have:=congrArg List.length e
   simp at this
   exact hx.2 this
  ·have hx1:=hx.1
   refine .rq (bd8 (by simp;omega)) (.ret ?_)
   simp only [decide_eq_true_eq] at hb
   simp;omega
theorem Iz {c:Int} (h0:0<=c) {p:ParT} (h:ParOK p) (hz:p.2.2.1≠0):Tot (dX c p.2.2.1 p.2.2.2.1 p.2.2.2.2.1 p.2.2.2.2.2.1 p.2.2.2.2.2.2.1 p.2.2.2.2.2.2.2.1 p.2.2.2.2.2.2.2.2.1 p.2.2.2.2.2.2.2.2.2 p.1 p.2.1) fun r=>ia 1 r.1/\ParOK (r.2.1,r.2.2.1,r.2.2.2.1,r.2.2.2.2.1,r.2.2.2.2.2.1,false,r.2.2.2.2.2.2.1,r.2.2.2.2.2.2.2.1,r.2.2.2.2.2.2.2.2.1,r.2.2.2.2.2.2.2.2.2):=by
 unfold dX
 simp only [bq,bi,Option.bind_some,rleq,aM]
 refine .cnd (fun hb=>?_) fun _=>.cnd (fun _=>.ret ⟨oR _,⟨h.pa,h.te,h.st,h.asked,h.it,fun e=>absurd e hz⟩⟩) fun _=>.cnd (fun _=>.ret ⟨oR _,⟨h.pa,h.te,h.st,h.asked,h.it,fun e=>absurd e hz⟩⟩) fun _=>.cnd (fun _=>?_) fun _=>?_
 ·simp only [decide_eq_true_eq] at hb
  exact .bind (vE h0 hb h.it) fun x hx=>.ret ⟨oR _,⟨h.pa,h.te,h.st,h.asked,hx,fun e=>absurd e hz⟩⟩
 ·exact .bind (Fx h.pa h.asked) fun x hx=>.ret ⟨oR _,⟨hx.1,h.te,h.st,fun _=>hx.2,h.it,fun e=>absurd e hz⟩⟩
 ·have hp:=h.pa
  refine .rq (by refine ⟨by omega,?_,?_⟩ <;> split <;> omega) (.cnd (fun _=>.ret ⟨oR _,ParOK.zero⟩) fun _=>?_)
  refine .rq (by split <;> omega) (.rq rfl (.ret ⟨⟨by simp,?_⟩,ParOK.zero⟩))
  intro a ha
  simp only [List.mem_singleton] at ha
  subst ha
  refine ⟨h.it,?_,by simp,h0⟩
  simp only [List.drop_zero,List.length_take]
  omega
theorem Jd {c:Int} (h0:0<=c) {p:ParT} (h:ParOK p) (hz:p.2.2.1≠0):Tot (fV c p.2.2.1 p.2.2.2.1 p.2.2.2.2.1 p.2.2.2.2.2.1 p.2.2.2.2.2.2.1 p.2.2.2.2.2.2.2.1 p.2.2.2.2.2.2.2.2.1 p.2.2.2.2.2.2.2.2.2 p.1 p.2.1) fun r=>ia 1 r.1/\ParOK r.2:=by
 unfold fV
 simp only [bq,bi,Option.bind_some,rleq,aM]
 refine .cnd (fun hb=>?_) fun _=>?_
 ·simp only [decide_eq_true_eq] at hb
  exact .bind (vE h0 hb h.it) fun x hx=>.ret ⟨oR _,⟨h.pa,h.te,h.st,h.asked,hx,fun e=>absurd e hz⟩⟩
 refine Tot.bind (P:=fun o=>match o with | .inr r=>ia 1 r.1/\ParOK r.2 | .inl _=>True) ?_ ?_
 ·refine .cnd (fun _=>?_) fun _=>.ret trivial
  refine Tot.bind (P:=fun o=>match o with | .inr (.inr r)=>ia 1 r.1/\ParOK r.2 | _=>True) ?_ ?_
  ·refine .cnd (fun _=>.ret ⟨oR _,ParOK.new 2 (by decide) (by decide) _ _ _⟩) fun _=>.cnd (fun _=>.ret trivial) fun _=>?_
   exact .cnd (fun _=>⟨_,rfl,trivial⟩) fun _=>⟨_,rfl,trivial⟩
  ·intro o ho
   match o,ho with
   | .inr (.inr r),ho=>exact .ret ho
   | .inr (.inl _),_=>exact .ret trivial
   | .inl x,_=>exact .ret ⟨oR _,ParOK.new 3 (by decide) (by decide) _ _ _⟩
 ·intro o ho
  match o,ho with
  | .inr r,ho=>exact .ret ho
  | .inl _,_=>
   refine .cnd (fun _=>.ret ⟨oR _,ParOK.zero⟩) fun _=>.rq rfl (.ret ⟨⟨by simp,?_⟩,ParOK.zero⟩)
   intro a ha
   simp only [List.mem_singleton] at ha
   subst ha
   exact ⟨h.it,by simp,by simp,h0⟩
def oneP (c:Int) (p:ParT):Option (List ActT×ParT):=dg c p.2.2.1 p.2.2.2.1 p.2.2.2.2.1 p.2.2.2.2.2.1 p.2.2.2.2.2.2.1 p.2.2.2.2.2.2.2.1 p.2.2.2.2.2.2.2.2.1 p.2.2.2.2.2.2.2.2.2 p.1 p.2.1
theorem Aq {c:Int} (h0:0<=c) {p:ParT} (h:ParOK p):Tot (oneP c p) fun r=>ia 1 r.1/\ParOK r.2:=by
 unfold oneP dg
 simp only [bq,bi,Option.bind_some,rleq,aM]
 have key:∀F:Option (List ActT×ParT),Tot F (fun r=>ia 1 r.1/\ParOK r.2) ->
   Tot (Option.map (Sum.inr (α:=ParT)) F) (fun o=>match o with | .inr r=>ia 1 r.1/\ParOK r.2 | .inl p=>ParOK p):=fun F hF=>.mp hF
 refine Tot.bind (P:=fun o=>match o with | .inr r=>ia 1 r.1/\ParOK r.2 | .inl p=>ParOK p) ?_ ?_
 ·have h3:=h.st
  refine Tot.bind (P:=fun b=>b=false->p.2.2.1≠0\/c=27) ?_ fun b hb=>.cnd (fun _=>?_) fun hbf=>?_
  ·refine .cnd (fun _=>.ret ?_) fun hz=>?_
   ·intro hc;right;revert hc;cases hc:(c !=27) <;> simp_all
   ·have hz':p.2.2.1≠0:=by intro e;rw [e] at hz;simp at hz
    refine .cnd (fun _=>.ret fun _=>.inl hz') fun k1=>.cnd (fun _=>.ret fun _=>.inl hz') fun k2=>.cnd (fun _=>.ret fun _=>.inl hz') fun k3=>?_
    have:p.2.2.1≠1/\p.2.2.1≠2/\p.2.2.1≠3:=⟨by intro e;rw [e] at k1;simp at k1,by intro e;rw [e] at k2;simp at k2,by intro e;rw [e] at k3;simp at k3⟩
    omega
  ·exact .bind (rL h0) fun x hx=>.mp (.ret ⟨hx,h⟩)
  ·have hb':=hb hbf
   refine .cnd (fun _=>.bind (EO h.te) fun x hx=>.mp (.ret ⟨hx,ParOK.new 1 (by decide) (by decide) _ _ _⟩)) fun hc=>?_
   have hz:p.2.2.1≠0:=by
    rcases hb' with k | k
    ·exact k
    ·rw [k] at hc;simp at hc
   refine .cnd (fun _=>.bind (rL h0) fun x hx=>.mp (.ret ⟨hx,ParOK.zero⟩)) fun _=>?_
   have steps:Tot (bif Nat.beq p.2.2.1 0 then none
     else bif Nat.beq p.2.2.1 1 then fV c p.2.2.1 p.2.2.2.1 p.2.2.2.2.1 p.2.2.2.2.2.1 p.2.2.2.2.2.2.1 p.2.2.2.2.2.2.2.1 p.2.2.2.2.2.2.2.2.1 p.2.2.2.2.2.2.2.2.2 p.1 p.2.1
     else bif Nat.beq p.2.2.1 2 then (dX c p.2.2.1 p.2.2.2.1 p.2.2.2.2.1 p.2.2.2.2.2.1 p.2.2.2.2.2.2.1 p.2.2.2.2.2.2.2.1 p.2.2.2.2.2.2.2.2.1 p.2.2.2.2.2.2.2.2.2 p.1 p.2.1).bind fun r=>some (r.1,r.2.1,r.2.2.1,r.2.2.2.1,r.2.2.2.2.1,r.2.2.2.2.2.1,false,r.2.2.2.2.2.2.1,r.2.2.2.2.2.2.2.1,r.2.2.2.2.2.2.2.2.1,r.2.2.2.2.2.2.2.2.2)
     else bif Nat.beq p.2.2.1 3 then iU c p.2.2.1 p.2.2.2.1 p.2.2.2.2.1 p.2.2.2.2.2.1 p.2.2.2.2.2.2.1 p.2.2.2.2.2.2.2.1 p.2.2.2.2.2.2.2.2.1 p.2.2.2.2.2.2.2.2.2 p.1 p.2.1 else none) (fun r=>ia 1 r.1/\ParOK r.2):=by
    refine .cnd (fun k=>absurd (Nat.eq_of_beq_eq_true k) hz) fun _=>.cnd (fun _=>Jd h0 h hz) fun k1=>.cnd (fun _=>.bind (Iz h0 h hz) fun r hr=>.ret hr) fun k2=>.cnd (fun _=>Gx h hz) fun k3=>?_
    have:p.2.2.1≠1/\p.2.2.1≠2/\p.2.2.1≠3:=⟨by intro e;rw [e] at k1;simp at k1,by intro e;rw [e] at k2;simp at k2,by intro e;rw [e] at k3;simp at k3⟩
    omega
   have h4:p.2.2.1=1\/p.2.2.1=2\/p.2.2.1=3:=by omega
   refine .cnd (fun _=>?_) fun _=>.cnd (fun _=>.ret (ParOK.zero)) fun _=>.cnd (fun _=>.ret h) fun _=>?_
   ·rcases h4 with e | e | e <;> rw [e] at steps ⊢ <;> simp only [Nat.beq,cond_true,cond_false] at steps ⊢
    ·exact .bind steps fun r hr=>.mp (.ret hr)
    ·obtain ⟨r,k1,k2⟩:=steps
     obtain ⟨q,k3,k4⟩:=Option.bind_eq_some_iff.1 k1
     rw [k3]
     simp only [Option.some.injEq] at k4
     subst k4
     exact ⟨_,rfl,k2⟩
    ·exact .bind steps fun r hr=>.mp (.ret hr)
   ·refine key _ ?_
    rcases h4 with e | e | e <;> rw [e] at steps ⊢ <;> simp only [Nat.beq,cond_true,cond_false] at steps ⊢
    ·exact .bind steps fun r hr=>.ret hr
    ·obtain ⟨r,k1,k2⟩:=steps
     obtain ⟨q,k3,k4⟩:=Option.bind_eq_some_iff.1 k1
     rw [k3]
     simp only [Option.some.injEq] at k4
     subst k4
     exact ⟨_,rfl,k2⟩
    ·exact .bind steps fun r hr=>.ret hr
 ·intro o ho
  match o,ho with
  | .inr r,ho=>exact .ret ho
  | .inl q,ho=>exact .bind (rL h0) fun x hx=>.ret ⟨hx,ho⟩
def putP (c:Int) (p:ParT):Option (List ActT×ParT):=d8 c p.2.2.1 p.2.2.2.1 p.2.2.2.2.1 p.2.2.2.2.2.1 p.2.2.2.2.2.2.1 p.2.2.2.2.2.2.2.1 p.2.2.2.2.2.2.2.2.1 p.2.2.2.2.2.2.2.2.2 p.1 p.2.1
theorem GU (c:Int):Tot (si c) fun r=>0<=r/\r<=1114111:=by
 unfold si
 simp only [bq,bi,Option.bind_some]
 refine .cnd (fun _=>.ret (by omega)) fun h=>.ret ?_
 cases h1:decide (c<0) with
 | true=>rw [h1] at h;simp at h
 | false=>
  cases h2:decide (c>1114111) with
  | true=>rw [h1,h2] at h;simp at h
  | false=>simp only [decide_eq_false_iff_not] at h1 h2;omega
theorem IJ (c:Int) {p:ParT} (h:ParOK p):Tot (putP c p) fun r=>ia 2 r.1/\ParOK r.2:=by
 unfold putP d8
 simp only [bq,bi,Option.bind_some,rleq,aM]
 refine .bind (GU c) fun x hx=>?_
 refine .cnd (fun hb=>?_) fun _=>?_
 ·have hb:128<=x:=by
   cases h1:decide (x>=128) with
   | true=>simpa using h1
   | false=>rw [h1] at hb;simp at hb
  refine Tot.bind (Aq (c:=27) (by omega) h) fun r hr=>?_
  have hw:i32.wrap (x-64)=x-64:=by
   exact K0 (by omega)
  rw [hw]
  refine Tot.bind (Aq (c:=x-64) (by omega) hr.2) fun q hq=>?_
  have hl:(r.1++q.1).length<=2:=by have:=hr.1.1;have:=hq.1.1;simp;omega
  refine .rq (bd80 (by omega)) (.ret ⟨⟨hl,fun a ha=>?_⟩,hq.2⟩)
  rcases List.mem_append.1 ha with k | k
  ·exact hr.1.2 a k
  ·exact hq.1.2 a k
 ·exact .bind (Aq hx.1 h) fun r hr=>.ret ⟨⟨by have:=hr.1.1;simp only;omega,hr.1.2⟩,hr.2⟩
end Go.SH
set_option maxRecDepth 8000
namespace Go.SH
theorem bifb {α β:Type} (c:Bool) (a b:Option α) (f:α->Option β):(bif c then a else b).bind f=bif c then a.bind f else b.bind f:=by cases c <;> rfl
theorem bifm {α β:Type} (c:Bool) (a b:Option α) (f:α->β):Option.map f (bif c then a else b)=bif c then Option.map f a else Option.map f b:=by cases c <;> rfl
def oS (l:List ChT):Prop:=l.length<=17/\∀ch∈l,chL ch/\ch.1≠27
theorem chs0:oS []:=⟨by simp,by simp⟩
theorem chs1 {k n m c:Int} (h:k≠27):oS [(k,n,m,c,[],[])]:=⟨by simp,by intro ch hc;simp at hc;subst hc;exact ⟨⟨by simp,by simp⟩,h⟩⟩
theorem chs2 {k n m c k' n' m' c':Int} (h:k≠27) (h':k'≠27):oS [(k,n,m,c,[],[]),(k',n',m',c',[],[])]:=
 ⟨by simp,by intro ch hc;simp at hc;rcases hc with e | e <;> subst e <;> exact ⟨⟨by simp,by simp⟩,by assumption⟩⟩
theorem Cw (c:Int):Tot (mj c) oS:=by
 unfold mj
 simp only [bq,bi,Option.bind_some,rleq,aM]
 repeat' first | refine Tot.cnd (fun _=>?_) (fun _=>?_) | exact Tot.ret chs0 | exact Tot.ret (chs1 (by decide))
theorem Fr (c:Int):(bQ [c]).length<=4:=by
 unfold bQ
 simp only [List.flatMap_cons,List.flatMap_nil,List.append_nil]
 unfold Utf8.encode
 have key:∀(p q r:Prop) [Decidable p] [Decidable q] [Decidable r] (a b c d:ByteArray),a.data.toList.length<=4->b.data.toList.length<=4->c.data.toList.length<=4->d.data.toList.length<=4 ->
   (if p then a else if q then b else if r then c else d).data.toList.length<=4:=by
  intro p q r _ _ _ a b c d h1 h2 h3 h4
  repeat' split
  all_goals assumption
 exact key _ _ _ _ _ _ _ (by simp) (by simp) (by simp) (by simp)
theorem DA {a:ActT} (h:nH a):Tot (om a) oS:=by
 unfold om
 simp only [bq,bi,Option.bind_some,rleq,aM]
 have:=h.1
 have:=Fr a.2.1
 refine .rq (by omega) ?_
 repeat' first | refine Tot.cnd (fun _=>?_) (fun _=>?_) | exact Tot.ret chs0 | exact Tot.ret (chs1 (by decide)) | exact Tot.ret (chs2 (by decide) (by decide))
def parM (a:ActT) (i:Nat):Int:=a.2.2.2.2.1.getD i 0
theorem pt (a:ActT) (i:Nat):ja a (i:Int)=some (parM a i):=by
 unfold ja parM
 simp only [bq,bi,Option.bind_some]
 by_cases h:i<a.2.2.2.2.1.length
 ·rw [aG (by omega)]
  simp [bo,h]
 ·rw [aU (by omega)]
  simp [h]
theorem Fz (a:ActT):Tot (qn a) oS:=by
 unfold qn
 have p0:=pt a 0
 have p1:=pt a 1
 rw [show ((0:Nat):Int)=0 from rfl] at p0
 rw [show ((1:Nat):Int)=1 from rfl] at p1
 rw [p0,p1]
 simp only [bq,bi,Option.bind_some,rleq,aM,Option.map_some,bifb,bifm]
 simp only [Option.bind_some,bifb,bifm,Option.map_some,cond_true,cond_false,List.cons_append,List.nil_append]
 have hm:∀{l:List ChT},l.length<=10->l.length*80<=aI:=fun h=>bd80 (by omega)
 repeat' first
  | refine Tot.cnd (fun _=>?_) (fun _=>?_)
  | exact Tot.ret chs0
  | exact Tot.ret (chs1 (by decide))
  | exact Tot.ret (chs2 (by decide) (by decide))
  | refine Tot.rq (by first | rfl | exact hm (by simp)) ?_
theorem xj {a:ActT} {step:Int×List ChT->Option (List ChT⊕(Int×List ChT))} {f:Int->List ChT} (h:nH a)
  (hs:∀(i:Nat) (x:Int) (l:List ChT),a.2.2.2.2.1[i]?=some x->l.length<=i->step ((i:Int),l)=some (.inr (((i+1:Nat):Int),l++f x)))
  (he:∀l,step ((a.2.2.2.2.1.length:Int),l)=some (.inl l)) (hf:∀x,(f x).length<=1/\∀ch∈f x,chL ch/\ch.1≠27):aH step (0,[])=some (a.2.2.2.2.1.flatMap f)/\oS (a.2.2.2.2.1.flatMap f):=by
 have k:=oa (l:=a.2.2.2.2.1) (step:=step) (enc:=fun l:List ChT=>l) (f:=fun l x=>l++f x) (I:=fun i l=>l.length<=i/\∀ch∈l,chL ch/\ch.1≠27) (e:=fun l=>l)
  (fun i l x hx hi=>⟨hs i x l hx hi.1,by have:=(hf x).1;have:=hi.1;simp;omega,fun ch hc=>by
   rcases List.mem_append.1 hc with q | q
   ·exact hi.2 ch q
   ·exact (hf x).2 ch q⟩)
  (fun l _=>he l) [] ⟨by simp,by simp⟩
 have e:∀(q:List Int) (l:List ChT),q.foldl (fun l x=>l++f x) l=l++q.flatMap f:=by
  intro q
  induction q with
  | nil=>intro l;simp
  | cons x r ih=>intro l;simp [ih]
 simp only [e,List.nil_append] at k
 exact ⟨k.1,by have:=k.2.1;have:=h.2.1;omega,k.2.2⟩
def vo (f:Int->Int) (c:Int) (x:Int):List ChT:=bif f x !=0 then [(20,f x,bif c==104 then 1 else 0,0,[],[])] else []
theorem BT (f:Int->Int) (c x:Int):(vo f c x).length<=1/\∀ch∈vo f c x,chL ch/\ch.1≠27:=by
 unfold vo
 cases (f x !=0)
 ·simp
 ·refine ⟨by simp,fun ch hc=>?_⟩
  simp only [cond_true,List.mem_singleton] at hc
  subst hc
  exact ⟨⟨by simp,by simp⟩,by simp⟩
def insM (x:Int):Int:=bif x==4 then 4 else 0
def prvM (x:Int):Int:=bif x==1 then 16 else bif x==5 then 64 else bif x==6 then 2 else bif x==7 then 1 else bif x==25 then 8 else bif x==2004 then 32
 else bif (x==47||x==1047||x==1049) then 128 else 0
theorem DE (x:Int):mi x=some (insM x):=by
 unfold mi insM
 simp only [bq,bi,Option.bind_some]
 cases (x==4) <;> rfl
theorem Dd (x:Int):mh x=some (prvM x):=by
 unfold mh prvM
 simp only [bq,bi,Option.bind_some]
 cases (x==1) <;> cases (x==5) <;> cases (x==6) <;> cases (x==7) <;> cases (x==25) <;> cases (x==2004) <;> cases (x==47) <;> cases (x==1047) <;> cases (x==1049) <;> rfl
def uw (f:Int->Int) (a:ActT):List ChT:=bif a.2.1==104||a.2.1==108 then a.2.2.2.2.1.flatMap (vo f a.2.1) else []
theorem Do {a:ActT} (h:nH a):j9 a=some (uw insM a)/\oS (uw insM a):=by
 have hp:=h.2.1
 have k:=xj (a:=a) (step:=ff a) (f:=vo insM a.2.1) h (fun i x l hx hl=>by
  have hlt:i<a.2.2.2.2.1.length:=(List.getElem?_eq_some_iff.1 hx).1
  unfold ff vo
  simp only [bq,bi,Option.bind_some,bo,hx,aG (show (i:Int)<(a.2.2.2.2.1.length:Int) by omega),cond_true,rleq,aM,DE,wr1 hlt (Nat.le_trans hp (by decide))]
  cases (insM x !=0)
  ·simp
  ·simp only [cond_true]
   cases (a.2.1==104) <;> simp only [cond_true,cond_false,Option.bind_some] <;> rw [ae (bd80 (by simp;omega))] <;> rfl) (fun l=>by
  unfold ff
  simp only [bq,bi,Option.bind_some,aU (show ¬((a.2.2.2.2.1.length:Int)<(a.2.2.2.2.1.length:Int)) by omega),cond_false,rleq,aM]) (BT _ _)
 unfold j9 uw
 simp only [bq,bi,Option.bind_some,k.1,rleq,aM]
 cases h1:(a.2.1==104) <;> cases h2:(a.2.1==108) <;> simp [bne,h1,h2,chs0,k.2]
theorem Dn {a:ActT} (h:nH a):j8 a=some (uw prvM a)/\oS (uw prvM a):=by
 have hp:=h.2.1
 have k:=xj (a:=a) (step:=fe a) (f:=vo prvM a.2.1) h (fun i x l hx hl=>by
  have hlt:i<a.2.2.2.2.1.length:=(List.getElem?_eq_some_iff.1 hx).1
  unfold fe vo
  simp only [bq,bi,Option.bind_some,bo,hx,aG (show (i:Int)<(a.2.2.2.2.1.length:Int) by omega),cond_true,rleq,aM,Dd,wr1 hlt (Nat.le_trans hp (by decide))]
  cases (prvM x !=0)
  ·simp
  ·simp only [cond_true]
   cases (a.2.1==104) <;> simp only [cond_true,cond_false,Option.bind_some] <;> rw [ae (bd80 (by simp;omega))] <;> rfl) (fun l=>by
  unfold fe
  simp only [bq,bi,Option.bind_some,aU (show ¬((a.2.2.2.2.1.length:Int)<(a.2.2.2.2.1.length:Int)) by omega),cond_false,rleq,aM]) (BT _ _)
 unfold j8 uw
 simp only [bq,bi,Option.bind_some,k.1,rleq,aM]
 cases h1:(a.2.1==104) <;> cases h2:(a.2.1==108) <;> simp [bne,h1,h2,chs0,k.2]
end Go.SH
set_option maxRecDepth 8000
namespace Go.SH
open IntKind (i64 u64 i32 u8)
theorem bqg {α:Type} (a:Bool) (b c:α):(bif a then some b else some c:Option α)=some (bif a then b else c):=by cases a <;> rfl
theorem KL {l:List Int} (h:l.length<=1000):fp l=some l:=by
 unfold fp;exact ae (bd8 h)
theorem KK {l:List Int} (h:l.length<=1000):bB l=some l:=by
 unfold bB;exact ae (bd4 h)
theorem FL {a:ActT} (h:nH a) (s:ScrT):Tot (nA a s) oS:=by
 unfold nA
 have p0:=pt a 0
 have p1:=pt a 1
 rw [show ((0:Nat):Int)=0 from rfl] at p0
 rw [show ((1:Nat):Int)=1 from rfl] at p1
 have m:=Do h
 have hp:=h.2.1
 rw [p0,p1,m.1,KL (show a.2.2.2.2.1.length<=1000 by omega)]
 simp only [bq,bi,Option.bind_some,rleq,aM,Option.map_some,bifb,bifm]
 repeat' first
  | refine Tot.cnd (fun _=>?_) (fun _=>?_)
  | exact Tot.ret chs0
  | exact Tot.ret m.2
  | exact Tot.ret (chs1 (by decide))
  | exact Tot.ret ⟨by simp,by intro ch hc;simp at hc;subst hc;exact ⟨⟨by simp;omega,by simp⟩,by simp⟩⟩
theorem CA {a:ActT} (h:nH a) (s:ScrT):Tot (dI a s) oS:=by
 unfold dI
 have m:=Dn h
 have hb:∀b c d:Bool,(bif b then bif c then some d else some false else some false:Option Bool)=some (b&&c&&d):=by decide
 unfold pO
 have hti:=h.2.2.1
 have ht:((bif a.1==5 then
        bif decide ((a.2.2.2.2.2.length:Int)>1) then
         (getI a.2.2.2.2.2 0).bind fun x18=>
         bif x18==48 then
          (getI a.2.2.2.2.2 1).bind fun x19=>
          bif x19==59 then
           some true
          else
           some false
         else
          (getI a.2.2.2.2.2 0).bind fun x20=>
          bif x20==50 then
           (getI a.2.2.2.2.2 1).bind fun x21=>
           bif x21==59 then
            some true
           else
            some false
          else
           some false
        else
         some false
       else
        some false:Option (Bool)))=some ((a.1==5)&&decide ((a.2.2.2.2.2.length:Int)>1)&&(a.2.2.2.2.2.getD 0 0==48||a.2.2.2.2.2.getD 0 0==50)&&(a.2.2.2.2.2.getD 1 0==59)):=by
  cases (a.1==5)
  ·rfl
  ·cases h1:decide ((a.2.2.2.2.2.length:Int)>1)
   ·rfl
   ·simp only [decide_eq_true_eq] at h1
    have g0:getI a.2.2.2.2.2 0=some (a.2.2.2.2.2.getD 0 0):=by
     have:=bo a.2.2.2.2.2 0
     rw [show ((0:Nat):Int)=0 from rfl] at this
     rw [this]
     simp [show 0<a.2.2.2.2.2.length by omega]
    have g1:getI a.2.2.2.2.2 1=some (a.2.2.2.2.2.getD 1 0):=by
     have:=bo a.2.2.2.2.2 1
     rw [show ((1:Nat):Int)=1 from rfl] at this
     rw [this]
     simp [show 1<a.2.2.2.2.2.length by omega]
    rw [g0,g1]
    simp only [cond_true,Option.bind_some]
    cases (a.2.2.2.2.2.getD 0 0==48) <;> cases (a.2.2.2.2.2.getD 0 0==50) <;> cases (a.2.2.2.2.2.getD 1 0==59) <;> rfl
 rw [ht,m.1]
 simp only [bq,bi,Option.bind_some,rleq,aM,Option.map_some,bifb,bifm]
 refine .cnd (fun _=>.ret (chs1 (by decide))) fun _=>.cnd (fun _=>.bind (Cw _) fun l hl=>.ret hl) fun _=>.cnd (fun _=>.bind (DA h) fun l hl=>.ret hl) fun _=>?_
 refine .cnd (fun _=>.bind (Fz a) fun l hl=>.cnd (fun _=>.ret hl) fun _=>.bind (FL h s) fun l hl=>.ret hl) fun _=>.cnd (fun _=>.ret m.2) fun _=>.cnd (fun hc=>?_) fun _=>.ret chs0
 have h1:1<a.2.2.2.2.2.length:=by
  cases h1:decide ((a.2.2.2.2.2.length:Int)>1) with
  | true=>simp at h1;omega
  | false=>rw [h1] at hc;simp at hc
 refine .rq (by omega) ?_
 have hs:(sub a.2.2.2.2.2 2 a.2.2.2.2.2.length).length<=64:=by unfold sub;simp;omega
 rw [KK (by omega)]
 exact .ret ⟨by simp,by intro ch hc;simp at hc;subst hc;exact ⟨⟨by simp,by simp;omega⟩,by simp⟩⟩
def chs (R:Int) (a:ActT):List ChT:=(dI a (lG R 1).t).getD []
theorem AV (a:ActT) (s:ScrT):dI a s=dI a (lG s.1 1).t:=by
 unfold dI nA;rfl
theorem HX {a:ActT} (h:nH a) (s:ScrT):dI a s=some (chs s.1 a)/\oS (chs s.1 a):=by
 rw [AV]
 exact (CA h _).ext
def asks (a:ActT):Bool:=(a.1==4&&(a.2.2.1==0&&(a.2.2.2.1==[])))&&((a.2.1==99&&parM a 0==0)||((a.2.1==110&&parM a 0==5)||(a.2.1==110&&parM a 0==6)))
theorem Hg:∀n:_root_.Fin 202,(Lib.itoa (n.val:Int)).length<=20:=by decide +kernel
theorem zq {n:Int} (h0:0<=n) (h1:n<=201):itoa n=some (Lib.itoa n)/\(Lib.itoa n).length<=20:=by
 refine ⟨ae (by omega),?_⟩
 obtain ⟨k,rfl⟩:∃k:Nat,n=k:=⟨n.toNat,by omega⟩
 exact Hg ⟨k,by omega⟩
def rowA (s:Sc):Int:=bif (aj .and .i64 s.modes 2) !=0 then (if (i64.wrap (s.row-s.top))>(0:Int) then (i64.wrap (s.row-s.top)) else (0:Int)) else s.row
def ansS (s:Sc) (a:ActT):List UInt8:=
 bif asks a then (bif a.2.1==99&&parM a 0==0 then [27,91,63,49,59,50,99] else bif a.2.1==110&&parM a 0==5 then [27,91,48,110]
  else (((([27,91]++Lib.itoa (rowA s+1))++[59])++Lib.itoa (s.col+1))++[82])) else []
theorem Ko {s:Sc} {R C:Nat} (h:OkS s R C):0<=rowA s/\rowA s<200:=by
 have h1:=h.row;have h2:=h.top;have h3:=h.sz
 unfold szR at h3
 unfold rowA
 cases (aj .and .i64 s.modes 2 !=0)
 ·simp only [cond_false];omega
 ·simp only [cond_true]
  rw [aD (by omega)]
  split <;> omega
theorem D6 {s:Sc} {R C:Nat} (h:OkS s R C) (a:ActT):iR a s.t=some (ansS s a)/\(ansS s a).length<=50/\decide (((ansS s a).length:Int)>0)=asks a:=by
 have hr:=Ko h
 have h1:=h.col;have h3:=h.sz
 unfold szR at h3
 have i1:=zq (n:=rowA s+1) (by omega) (by omega)
 have i2:=zq (n:=s.col+1) (by omega) (by omega)
 have p0:=pt a 0
 rw [show ((0:Nat):Int)=0 from rfl] at p0
 unfold iR pO
 rw [p0]
 simp only [bqg,bi,Option.bind_some,rleq,aM]
 have er:(bif aj .and .i64 s.t.2.2.2.2.2.2.2.2.2.2.1 2 !=0 then (if (i64.wrap (s.t.2.2.2.2.1-s.t.2.2.2.2.2.2.2.2.1))>(0:Int) then (i64.wrap (s.t.2.2.2.2.1-s.t.2.2.2.2.2.2.2.2.1)) else (0:Int)) else s.t.2.2.2.2.1)=rowA s:=rfl
 rw [er]
 have ec:s.t.2.2.2.2.2.1=s.col:=rfl
 have wc:i64.wrap (s.t.2.2.2.2.2.1+1)=s.col+1:=by rw [ec];exact aD (by omega)
 have wr:i64.wrap (rowA s+1)=rowA s+1:=aD (by omega)
 rw [wc,wr,i1.1,i2.1]
 simp only [Option.bind_some]
 have l1:=i1.2;have l2:=i2.2
 rw [ae (by simp;omega),ae (by simp;omega),ae (by simp;omega),ae (by simp;omega)]
 unfold ansS asks
 have hL:((((([27,91]++Lib.itoa (rowA s+1))++[59])++Lib.itoa (s.col+1))++[82]):List UInt8).length<=50/\0<((((([27,91]++Lib.itoa (rowA s+1))++[59])++Lib.itoa (s.col+1))++[82]):List UInt8).length:=by
  simp;omega
 revert hL
 generalize ((((([27,91]++Lib.itoa (rowA s+1))++[59])++Lib.itoa (s.col+1))++[82]):List UInt8)=L
 intro hL
 have d:decide ((L.length:Int)>0)=true:=by have:=hL.2;simp;omega
 have hL1:=hL.1
 clear wc wr i1 i2 l1 l2 er ec p0 hr h1 h3 h hL
 generalize (a.1==4)=b1
 generalize (a.2.2.1==0)=b2
 generalize (a.2.2.2.1==[])=b3
 generalize (a.2.1==99)=b4
 generalize (parM a 0==0)=b5
 generalize (a.2.1==110)=b6
 generalize (parM a 0==5)=b7
 generalize (parM a 0==6)=b8
 cases b1 <;> cases b2 <;> cases b3 <;> cases b4 <;> cases b5 <;> try exact ⟨rfl,by simp,rfl⟩
 all_goals cases b6 <;> cases b7 <;> cases b8 <;> first | exact ⟨rfl,by simp,rfl⟩ | exact ⟨rfl,hL1,d⟩
end Go.SH
set_option maxRecDepth 8000
namespace Go.SH
open IntKind (i64 u64 i32 u8)
theorem He {s:Sc} {R C:Nat} (h:OkS s R C) {ch:ChT} (hl:chL ch/\ch.1≠27):OkS (oneM s ch) R C:=by
 obtain ⟨R',C',h1,h2⟩:=IT h hl.1
 obtain ⟨rfl,rfl⟩:=h2 hl.2
 exact h1
theorem qi:∀(l:List ChT) {s:Sc} {R C:Nat},OkS s R C->(∀ch∈l,chL ch/\ch.1≠27)->OkS (fQ l s) R C
 | [],s,R,C,h,_=>h
 | ch::r,s,R,C,h,hl=>qi r (He h (hl ch (by simp))) fun c hc=>hl c (by simp [hc])
abbrev EncT:=Int×Int×aw×aw×Int×Int×Bool×Int×Int×Int×Int×Int×Int×Int×Int×Int×Int×Int×Bool×Bool×Int×Int×Int×Int×Int×Bool×Bool×Int×Int×Int×Int×List Int
def Sc.ex (s:Sc):EncT:=(s.rows,s.cols,s.grid,s.main,s.row,s.col,s.late,s.pen.1,s.pen.2.1,s.pen.2.2,s.top,s.bottom,s.modes,s.sv0.1,s.sv0.2.1,s.sv0.2.2.1.1,s.sv0.2.2.1.2.1,s.sv0.2.2.1.2.2,s.sv0.2.2.2.1,s.sv0.2.2.2.2,s.sv1.1,s.sv1.2.1,s.sv1.2.2.1.1,s.sv1.2.2.1.2.1,s.sv1.2.2.1.2.2,s.sv1.2.2.2.1,s.sv1.2.2.2.2,s.tabs.1,s.tabs.2.1,s.tabs.2.2.1,s.tabs.2.2.2,s.title)
def rndM (q:List UInt8×List ChT×Sc) (a:ActT):List UInt8×List ChT×Sc:=
 bif asks a then (q.1++ansS (fQ (q.2.1++chs q.2.2.rows a) q.2.2) a,[],fQ (q.2.1++chs q.2.2.rows a) q.2.2) else (q.1,q.2.1++chs q.2.2.rows a,q.2.2)
structure RndOK (R C n:Nat) (q:List UInt8×List ChT×Sc):Prop where
 ok:OkS q.2.2 R C
 o:q.1.length<=50*n
 t:q.2.1.length<=17*n
 ch:∀c∈q.2.1,chL c/\c.1≠27
theorem GN {R C n:Nat} {q:List UInt8×List ChT×Sc} (h:RndOK R C n q) {a:ActT} (ha:nH a):RndOK R C (n+1) (rndM q a):=by
 obtain ⟨_,c1,c2⟩:=HX ha q.2.2.t
 have c1:(chs q.2.2.rows a).length<=17:=c1
 have c2:∀ch∈chs q.2.2.rows a,chL ch/\ch.1≠27:=c2
 have hc:∀c∈q.2.1++chs q.2.2.rows a,chL c/\c.1≠27:=fun c hc=>(List.mem_append.1 hc).elim (h.ch c) (c2 c)
 have ho:=h.o;have ht:=h.t
 unfold rndM
 cases asks a
 ·exact ⟨h.ok,by simp only [cond_false];omega,by simp only [cond_false,List.length_append];omega,hc⟩
 ·have k:=qi _ h.ok hc
  have:=(D6 k a).2.1
  exact ⟨k,by simp only [cond_true,List.length_append];omega,by simp,by simp⟩
theorem Kp {R C n:Nat} {q:List UInt8×List ChT×Sc} (h:RndOK R C n q) (hn:n<=20000) {a:ActT} (ha:nH a) :
  aW a q.2.2.rows q.2.2.cols q.2.2.grid q.2.2.main q.2.2.row q.2.2.col q.2.2.late q.2.2.pen.1 q.2.2.pen.2.1 q.2.2.pen.2.2 q.2.2.top q.2.2.bottom q.2.2.modes q.2.2.sv0.1 q.2.2.sv0.2.1 q.2.2.sv0.2.2.1.1 q.2.2.sv0.2.2.1.2.1 q.2.2.sv0.2.2.1.2.2 q.2.2.sv0.2.2.2.1 q.2.2.sv0.2.2.2.2 q.2.2.sv1.1 q.2.2.sv1.2.1 q.2.2.sv1.2.2.1.1 q.2.2.sv1.2.2.1.2.1 q.2.2.sv1.2.2.1.2.2 q.2.2.sv1.2.2.2.1 q.2.2.sv1.2.2.2.2 q.2.2.tabs.1 q.2.2.tabs.2.1 q.2.2.tabs.2.2.1 q.2.2.tabs.2.2.2 q.2.2.title q.1 q.2.1=some ((rndM q a).1,(rndM q a).2.1,(rndM q a).2.2.ex):=by
 obtain ⟨out,todo,s⟩:=q
 simp only
 obtain ⟨c0,c1,c2⟩:=HX ha s.t
 have e:aW a s.rows s.cols s.grid s.main s.row s.col s.late s.pen.1 s.pen.2.1 s.pen.2.2 s.top s.bottom s.modes s.sv0.1 s.sv0.2.1 s.sv0.2.2.1.1 s.sv0.2.2.1.2.1 s.sv0.2.2.1.2.2 s.sv0.2.2.2.1 s.sv0.2.2.2.2 s.sv1.1 s.sv1.2.1 s.sv1.2.2.1.1 s.sv1.2.2.1.2.1 s.sv1.2.2.1.2.2 s.sv1.2.2.2.1 s.sv1.2.2.2.2 s.tabs.1 s.tabs.2.1 s.tabs.2.2.1 s.tabs.2.2.2 s.title out todo=(dI a s.t).bind fun x1=>
  req (todo.length=todo.length) <|
  req ((todo++x1).length*80<=aI) <|
  (iR a s.t).bind fun x2=>
  bif decide ((x2.length:Int)>0) then
   req ((todo++x1).length=(todo++x1).length) <|
   (gR s.t (todo++x1)).bind fun x3=>
   (iR a x3).bind fun x4=>
   req (out.length=out.length) <|
   req ((out++x4).length*1<=aI) <|
   req ((out++x4).length=(out++x4).length) (some (out++x4,[],(Sc.of x3).ex))
  else
   req ((todo++x1).length=(todo++x1).length) (req (out.length=out.length) (some (out,todo++x1,s.ex))):=rfl
 rw [e,c0]
 have hs:s.t.1=s.rows:=rfl
 rw [hs] at c1 c2 ⊢
 have ho:out.length<=50*n:=h.o
 have ht:todo.length<=17*n:=h.t
 have hc:∀c∈todo++chs s.rows a,chL c/\c.1≠27:=fun c hc=>(List.mem_append.1 hc).elim (h.ch c) (c2 c)
 have hlen:(todo++chs s.rows a).length<=1000000:=by simp only [List.length_append];omega
 obtain ⟨a1,a2,a3⟩:=D6 h.ok a
 simp only at a1 a2 a3
 simp only [Option.bind_some,rleq,aM,a1,a3]
 rw [ae (bd80 hlen)]
 unfold rndM
 cases asks a
 ·rfl
 ·have k:=qi _ h.ok hc
  obtain ⟨d1,_⟩:=Ia h.ok hlen fun c hh=>(hc c hh).1
  simp only at d1 k
  obtain ⟨b1,b2,_⟩:=D6 k a
  simp only [cond_true,d1,Option.bind_some,b1]
  rw [ae (xy (n:=2000000) (by simp only [List.length_append];omega) (by decide))]
  rfl
theorem BI {R C:Nat}:∀(l:List ActT) {n:Nat} {q:List UInt8×List ChT×Sc},RndOK R C n q->(∀a∈l,nH a)->RndOK R C (n+l.length) (l.foldl rndM q)
 | [],n,q,h,_=>h
 | a::r,n,q,h,ha=>by
  have:=BI r (GN h (ha a (by simp))) fun b hb=>ha b (by simp [hb])
  rw [List.length_cons,show n+(r.length+1)=n+1+r.length by omega]
  exact this
theorem IE {R C n:Nat} {l:List ActT} (hl:l.length<=100) (ha:∀a∈l,nH a) {q:List UInt8×List ChT×Sc} (h:RndOK R C n q) (hn:n+l.length<=20000) (x:ParT)
  {step:(Int×List UInt8×List ChT×EncT)->Option ((List UInt8×List ChT×EncT)⊕(Int×List UInt8×List ChT×EncT))}
  (hs:∀(i:Int) (out:List UInt8) (todo:List ChT) (s:Sc),step (i,out,todo,s.ex)=bif decide (i<((l.length:Nat):Int)) then req (0<=i/\i<((l.length:Nat):Int)) ((l[i.toNat]?).bind fun a=>
   (aW a s.rows s.cols s.grid s.main s.row s.col s.late s.pen.1 s.pen.2.1 s.pen.2.2 s.top s.bottom s.modes s.sv0.1 s.sv0.2.1 s.sv0.2.2.1.1 s.sv0.2.2.1.2.1 s.sv0.2.2.1.2.2 s.sv0.2.2.2.1 s.sv0.2.2.2.2 s.sv1.1 s.sv1.2.1 s.sv1.2.2.1.1 s.sv1.2.2.1.2.1 s.sv1.2.2.1.2.2 s.sv1.2.2.2.1 s.sv1.2.2.2.2 s.tabs.1 s.tabs.2.1 s.tabs.2.2.1 s.tabs.2.2.2 s.title out todo).bind fun x24=>some (.inr (i64.wrap (i+1),x24))) else some (.inl (out,todo,s.ex))) :
  aH step (0,q.1,q.2.1,q.2.2.ex)=some ((l.foldl rndM q).1,(l.foldl rndM q).2.1,(l.foldl rndM q).2.2.ex):=by
 have k:=oa (l:=l) (step:=step) (enc:=fun q:List UInt8×List ChT×Sc=>(q.1,q.2.1,q.2.2.ex)) (f:=rndM) (I:=fun i q=>RndOK R C (n+i) q) (e:=fun q:List UInt8×List ChT×Sc=>(q.1,q.2.1,q.2.2.ex))
  (fun i q a hx hi=>by
   have hlt:i<l.length:=(List.getElem?_eq_some_iff.1 hx).1
   have haa:nH a:=ha a (List.mem_of_getElem? hx)
   refine ⟨?_,GN hi haa⟩
   show step ((i:Int),q.1,q.2.1,q.2.2.ex)=_
   rw [hs,aG (by omega)]
   simp only [cond_true]
   rw [ae (by omega),Int.toNat_natCast,hx]
   simp only [Option.bind_some]
   rw [Kp hi (by omega) haa,wr1 hlt (Nat.le_trans hl (by decide))]
   rfl) (fun q hq=>by show step ((l.length:Int),q.1,q.2.1,q.2.2.ex)=_;rw [hs,aU (by omega)];rfl) q h
 exact k.1
def putS (c:Int) (p:ParT):List ActT×ParT:=(putP c p).getD ([],p)
theorem Ev (c:Int) {p:ParT} (h:ParOK p):putP c p=some (putS c p)/\ia 2 (putS c p).1/\ParOK (putS c p).2:=(IJ c h).ext
abbrev FdT:=(List UInt8×List ChT×Sc)×ParT
def po (q:FdT) (c:Int):FdT:=((putS c q.2).1.foldl rndM q.1,(putS c q.2).2)
structure FdOK (R C n:Nat) (q:FdT):Prop where
 r:RndOK R C (2*n) q.1
 p:ParOK q.2
theorem RndOK.le {R C n m:Nat} {q:List UInt8×List ChT×Sc} (h:RndOK R C n q) (k:n<=m):RndOK R C m q:=⟨h.ok,by have:=h.o;omega,by have:=h.t;omega,h.ch⟩
theorem Es {R C n:Nat} {q:FdT} (h:FdOK R C n q) (c:Int):FdOK R C (n+1) (po q c):=by
 obtain ⟨_,a,b⟩:=Ev c h.p
 exact ⟨(BI _ h.r a.2).le (by have:=a.1;omega),b⟩
theorem BF {R C:Nat}:∀(l:List Int) {n:Nat} {q:FdT},FdOK R C n q->FdOK R C (n+l.length) (l.foldl po q)
 | [],n,q,h=>h
 | a::r,n,q,h=>by
  have:=BF r (Es h a)
  rw [List.length_cons,show n+(r.length+1)=n+1+r.length by omega]
  exact this
abbrev EnpT:=List UInt8×List ChT×List Int×List Int×Int×Int×aw×aw×Int×Int×Bool×Int×Int×Int×Int×Int×Int×Int×Int×Int×Int×Int×Bool×Bool×Int×Int×Int×Int×Int×Bool×Bool×Int×Int×Int×Int×List Int×Nat×Bool×Bool×Bool×Bool×Bool×Int×List UInt8
def encF (q:FdT):EnpT:=(q.1.1,q.1.2.1,q.2.1,q.2.2.1,q.1.2.2.rows,q.1.2.2.cols,q.1.2.2.grid,q.1.2.2.main,q.1.2.2.row,q.1.2.2.col,q.1.2.2.late,q.1.2.2.pen.1,q.1.2.2.pen.2.1,q.1.2.2.pen.2.2,q.1.2.2.top,q.1.2.2.bottom,q.1.2.2.modes,q.1.2.2.sv0.1,q.1.2.2.sv0.2.1,q.1.2.2.sv0.2.2.1.1,q.1.2.2.sv0.2.2.1.2.1,q.1.2.2.sv0.2.2.1.2.2,q.1.2.2.sv0.2.2.2.1,q.1.2.2.sv0.2.2.2.2,q.1.2.2.sv1.1,q.1.2.2.sv1.2.1,q.1.2.2.sv1.2.2.1.1,q.1.2.2.sv1.2.2.1.2.1,q.1.2.2.sv1.2.2.1.2.2,q.1.2.2.sv1.2.2.2.1,q.1.2.2.sv1.2.2.2.2,q.1.2.2.tabs.1,q.1.2.2.tabs.2.1,q.1.2.2.tabs.2.2.1,q.1.2.2.tabs.2.2.2,q.1.2.2.title,q.2.2.2.1,q.2.2.2.2.1,q.2.2.2.2.2.1,q.2.2.2.2.2.2.1,q.2.2.2.2.2.2.2.1,q.2.2.2.2.2.2.2.2.1,q.2.2.2.2.2.2.2.2.2.1,q.2.2.2.2.2.2.2.2.2.2)
theorem Hc {R C:Nat} {x1:List Int×DecT} (hl:x1.1.length<=9000) {q:FdT} (h:FdOK R C 0 q) :
  aH (aC x1) (0,encF q)=some (encF (x1.1.foldl po q))/\FdOK R C x1.1.length (x1.1.foldl po q):=by
 refine oa (l:=x1.1) (step:=aC x1) (enc:=encF) (f:=po) (I:=fun i q=>FdOK R C i q) (e:=encF) (fun i q c hx hi=>?_) (fun q hq=>?_) q h
 ·have hlt:i<x1.1.length:=(List.getElem?_eq_some_iff.1 hx).1
  refine ⟨?_,Es hi c⟩
  obtain ⟨p1,p2,p3⟩:=Ev c hi.p
  unfold aC
  simp only [bq,bi,Option.bind_some,rleq,aM]
  show (bif decide ((i:Int)<((x1.1.length:Nat):Int)) then _ else _)=_
  rw [aG (by omega)]
  simp only [cond_true]
  rw [ae (by omega),Int.toNat_natCast,hx]
  simp only [Option.bind_some]
  show (putP c q.2).bind _=_
  rw [p1]
  simp only [Option.bind_some]
  have k:=IE (l:=(putS c q.2).1) (step:=bZ (putS c q.2)) (by have:=p2.1;omega) p2.2 hi.r (by have:=p2.1;omega) q.2 (fun i out todo s=>by
   unfold bZ
   simp only [bq,bi,Option.bind_some,rleq,aM]
   rfl)
  erw [k]
  simp only [Option.bind_some]
  rw [wr1 hlt (Nat.le_trans hl (by decide))]
  rfl
 ·unfold aC
  simp only [bq,bi,Option.bind_some,rleq,aM]
  show (bif decide ((x1.1.length:Int)<((x1.1.length:Nat):Int)) then _ else _)=_
  rw [aU (by omega)]
  rfl
end Go.SH
set_option maxRecDepth 8000
namespace Go.SH
theorem Ha (x:List Int×DecT):dv x=aC x:=rfl
abbrev EmuT:=Sc×DecT×ParT
def goM (t:EmuT) (b:List UInt8):FdT:=(decA t.2.1 b).1.foldl po (([],[],t.1),t.2.2)
def aX (t:EmuT) (b:List UInt8):List UInt8×EmuT:=((goM t b).1.1,fQ (goM t b).1.2.1 (goM t b).1.2.2,(decA t.2.1 b).2,(goM t b).2)
structure EmuOK (t:EmuT) (R C:Nat):Prop where
 s:OkS t.1 R C
 p:ParOK t.2.2
abbrev OutT:=List UInt8×List Int×List Int×Int×Int×aw×aw×Int×Int×Bool×Int×Int×Int×Int×Int×Int×Int×Int×Int×Int×Int×Bool×Bool×Int×Int×Int×Int×Int×Bool×Bool×Int×Int×Int×Int×List Int×Int×Int×Int×UInt8×UInt8×Nat×Bool×Bool×Bool×Bool×Bool×Int×List UInt8
def outM (r:List UInt8×EmuT):OutT:=(r.1,r.2.2.2.1,r.2.2.2.2.1,r.2.1.rows,r.2.1.cols,r.2.1.grid,r.2.1.main,r.2.1.row,r.2.1.col,r.2.1.late,r.2.1.pen.1,r.2.1.pen.2.1,r.2.1.pen.2.2,r.2.1.top,r.2.1.bottom,r.2.1.modes,r.2.1.sv0.1,r.2.1.sv0.2.1,r.2.1.sv0.2.2.1.1,r.2.1.sv0.2.2.1.2.1,r.2.1.sv0.2.2.1.2.2,r.2.1.sv0.2.2.2.1,r.2.1.sv0.2.2.2.2,r.2.1.sv1.1,r.2.1.sv1.2.1,r.2.1.sv1.2.2.1.1,r.2.1.sv1.2.2.1.2.1,r.2.1.sv1.2.2.1.2.2,r.2.1.sv1.2.2.2.1,r.2.1.sv1.2.2.2.2,r.2.1.tabs.1,r.2.1.tabs.2.1,r.2.1.tabs.2.2.1,r.2.1.tabs.2.2.2,r.2.1.title,r.2.2.1.1,r.2.2.1.2.1,r.2.2.1.2.2.1,r.2.2.1.2.2.2.1,r.2.2.1.2.2.2.2,r.2.2.2.2.2.1,r.2.2.2.2.2.2.1,r.2.2.2.2.2.2.2.1,r.2.2.2.2.2.2.2.2.1,r.2.2.2.2.2.2.2.2.2.1,r.2.2.2.2.2.2.2.2.2.2.1,r.2.2.2.2.2.2.2.2.2.2.2.1,r.2.2.2.2.2.2.2.2.2.2.2.2)
theorem Hm {t:EmuT} {R C:Nat} (h:EmuOK t R C) {b:List UInt8} (hb:b.length<=3000):FdOK R C (decA t.2.1 b).1.length (goM t b):=by
 have:=BF (decA t.2.1 b).1 (n:=0) (q:=(([],[],t.1),t.2.2)) ⟨⟨h.s,by simp,by simp,by simp⟩,h.p⟩
 rw [Nat.zero_add] at this
 exact this
theorem tE {t:EmuT} {R C:Nat} (h:EmuOK t R C) {b:List UInt8} (hb:b.length<=3000):EmuOK (aX t b).2 R C/\(aX t b).1.length<=1000000:=by
 have k:=Hm h hb
 have:=tJ b t.2.1
 exact ⟨⟨qi _ k.r.ok k.r.ch,k.p⟩,by have:=k.r.o;show (goM t b).1.1.length<=_;omega⟩
theorem GM {t:EmuT} {R C:Nat} (h:EmuOK t R C) {b:List UInt8} (hb:b.length<=3000) :
  aH (aC (decA t.2.1 b)) (0,encF (([],[],t.1),t.2.2))=some (encF (goM t b))/\FdOK R C (decA t.2.1 b).1.length (goM t b):=
 Hc (x1:=decA t.2.1 b) (by have:=tJ b t.2.1;omega) ⟨⟨h.s,by simp,by simp,by simp⟩,h.p⟩
theorem J8 {t:EmuT} {R C:Nat} (h:EmuOK t R C) {b:List UInt8} (hb:b.length<=3000):gR (goM t b).1.2.2.t (goM t b).1.2.1=some (aX t b).2.1.t:=by
 have k:=Hm h hb
 have:=tJ b t.2.1
 exact (Ia k.r.ok (by have:=k.r.t;omega) fun c hc=>(k.r.ch c hc).1).1
theorem Fb {t:EmuT} {R C:Nat} (h:EmuOK t R C) {b:List UInt8} (hb:b.length<=3000) :
  bH b t.1.rows t.1.cols t.1.grid t.1.main t.1.row t.1.col t.1.late t.1.pen.1 t.1.pen.2.1 t.1.pen.2.2 t.1.top t.1.bottom t.1.modes t.1.sv0.1 t.1.sv0.2.1 t.1.sv0.2.2.1.1 t.1.sv0.2.2.1.2.1 t.1.sv0.2.2.1.2.2 t.1.sv0.2.2.2.1 t.1.sv0.2.2.2.2 t.1.sv1.1 t.1.sv1.2.1 t.1.sv1.2.2.1.1 t.1.sv1.2.2.1.2.1 t.1.sv1.2.2.1.2.2 t.1.sv1.2.2.2.1 t.1.sv1.2.2.2.2 t.1.tabs.1 t.1.tabs.2.1 t.1.tabs.2.2.1 t.1.tabs.2.2.2 t.1.title t.2.1.1 t.2.1.2.1 t.2.1.2.2.1 t.2.1.2.2.2.1 t.2.1.2.2.2.2 t.2.2.2.2.1 t.2.2.2.2.2.1 t.2.2.2.2.2.2.1 t.2.2.2.2.2.2.2.1 t.2.2.2.2.2.2.2.2.1 t.2.2.2.2.2.2.2.2.2.1 t.2.2.2.2.2.2.2.2.2.2.1 t.2.2.2.2.2.2.2.2.2.2.2 t.2.2.1 t.2.2.2.1=some (outM (aX t b)):=by
 unfold bH bU
 simp only [rleq,aM,Ha]
 rw [show bv=some () from rfl,show eW b=some b from rfl]
 simp only [Option.bind_some]
 rw [HE (Nat.le_trans hb (by decide))]
 simp only [Option.bind_some]
 have k:=(GM h hb).1
 unfold encF at k
 simp only at k
 erw [k]
 simp only [Option.bind_some]
 erw [J8 h hb]
 rfl
theorem CM {t:EmuT} {R C:Nat} (h:EmuOK t R C) (h1:t.2.2.1=[]) (h2:t.2.2.2.1=[]) {b:List UInt8} (hb:b.length<=3000) :
  bG b t.1.rows t.1.cols t.1.grid t.1.main t.1.row t.1.col t.1.late t.1.pen.1 t.1.pen.2.1 t.1.pen.2.2 t.1.top t.1.bottom t.1.modes t.1.sv0.1 t.1.sv0.2.1 t.1.sv0.2.2.1.1 t.1.sv0.2.2.1.2.1 t.1.sv0.2.2.1.2.2 t.1.sv0.2.2.2.1 t.1.sv0.2.2.2.2 t.1.sv1.1 t.1.sv1.2.1 t.1.sv1.2.2.1.1 t.1.sv1.2.2.1.2.1 t.1.sv1.2.2.1.2.2 t.1.sv1.2.2.2.1 t.1.sv1.2.2.2.2 t.1.tabs.1 t.1.tabs.2.1 t.1.tabs.2.2.1 t.1.tabs.2.2.2 t.1.title t.2.1.1 t.2.1.2.1 t.2.1.2.2.1 t.2.1.2.2.2.1 t.2.1.2.2.2.2 t.2.2.2.2.1 t.2.2.2.2.2.1 t.2.2.2.2.2.2.1 t.2.2.2.2.2.2.2.1 t.2.2.2.2.2.2.2.2.1 t.2.2.2.2.2.2.2.2.2.1 t.2.2.2.2.2.2.2.2.2.2.1 t.2.2.2.2.2.2.2.2.2.2.2=some (outM (aX t b)):=by
 unfold bG bT
 simp only [rleq,aM]
 rw [show fJ=some () from rfl,show eV b=some b from rfl]
 simp only [Option.bind_some]
 rw [HE (Nat.le_trans hb (by decide))]
 simp only [Option.bind_some]
 have k:=(GM h hb).1
 unfold encF at k
 simp only [h1,h2] at k
 erw [k]
 simp only [Option.bind_some]
 erw [J8 h hb]
 rfl
theorem DK {s:Sc} {R C:Nat} (h:OkS s R C):fW s.t=some s.t:=by
 have hm:=h.may
 obtain ⟨h1,h2,h3,h4,h5⟩:=At hm
 have h1:s.grid.length<=200:=h1
 have h3:s.main.length<=200:=h3
 have h5:s.title.length<=_:=h5
 unfold fW
 rw [mM (Nat.le_trans h1 (by decide)) (Nat.le_trans h3 (by decide)),hm]
 simp only [Option.bind_some,Bool.not_true,cond_false]
 have e1:cI s.t.2.2.1=some s.t.2.2.1:=qw h1 h2
 have e2:eg s.t.2.2.2.1=some s.t.2.2.2.1:=by rw [tM];exact qw h3 h4
 have e3:bB s.t.2.2.2.2.2.2.2.2.2.2.2.2.2=some s.t.2.2.2.2.2.2.2.2.2.2.2.2.2:=zX (Nat.le_trans h5 (by omega))
 rw [e1,e2,e3]
 simp only [Option.bind_some]
 have e4:aH lf ()=some ():=by rw [aL];rfl
 rw [e4]
 simp only [Option.bind_some,rleq]
 rfl
theorem D8 {s:Sc} {R C:Nat} (h:OkS s R C):fD s.t=some true:=by
 have hm:=h.may
 obtain ⟨h1,h2,h3,h4,h5⟩:=At hm
 rw [mM (Nat.le_trans h1 (by decide)) (Nat.le_trans h3 (by decide)),hm]
def cV (R C:Int):EmuT:=(lG R C,(0,0,0,0,0),zP)
theorem FK {R C:Nat} (h:szR R C):EmuOK (cV R C) R C:=⟨sS h,ParOK.zero⟩
def newM (s:Sc):Int×Int×aw×aw×Int×Int×Bool×Int×Int×Int×Int×Int×Int×Int×Int×Int×Int×Int×Bool×Bool×Int×Int×Int×Int×Int×Bool×Bool×Int×Int×Int×Int×List Int×Nat×List UInt8:=(s.rows,s.cols,s.grid,s.main,s.row,s.col,s.late,s.pen.1,s.pen.2.1,s.pen.2.2,s.top,s.bottom,s.modes,s.sv0.1,s.sv0.2.1,s.sv0.2.2.1.1,s.sv0.2.2.1.2.1,s.sv0.2.2.1.2.2,s.sv0.2.2.2.1,s.sv0.2.2.2.2,s.sv1.1,s.sv1.2.1,s.sv1.2.2.1.1,s.sv1.2.2.1.2.1,s.sv1.2.2.1.2.2,s.sv1.2.2.2.1,s.sv1.2.2.2.2,s.tabs.1,s.tabs.2.1,s.tabs.2.2.1,s.tabs.2.2.2,s.title,0,[])
theorem H8 {R C:Nat} (h:szR R C) {α:Type} (f:Int->Option α):(gF R C).bind f=none:=by
 have hk:=sS h
 have hd:=DK hk
 unfold gF lR gE
 rw [E6 h]
 simp only [Option.bind_some]
 rw [D8 hk]
 simp only [Option.bind_some,Bool.not_true,cond_false,hd]
 rfl
theorem E5 {R C:Nat} (h:szR R C):dn R C=some (newM (lG R C)):=by
 have hk:=sS h
 have hd:=DK hk
 unfold dn lR gE
 rw [E6 h]
 simp only [Option.bind_some]
 rw [D8 hk]
 simp only [Option.bind_some,Bool.not_true,cond_false,hd]
 rfl
theorem uY {s:Sc} {R C:Nat} (h:OkS s R C) (l1 l2:List Int):aV s.rows s.cols s.grid s.main s.row s.col s.late s.pen.1 s.pen.2.1 s.pen.2.2 s.top s.bottom s.modes s.sv0.1 s.sv0.2.1 s.sv0.2.2.1.1 s.sv0.2.2.1.2.1 s.sv0.2.2.1.2.2 s.sv0.2.2.2.1 s.sv0.2.2.2.2 s.sv1.1 s.sv1.2.1 s.sv1.2.2.1.1 s.sv1.2.2.1.2.1 s.sv1.2.2.1.2.2 s.sv1.2.2.2.1 s.sv1.2.2.2.2 s.tabs.1 s.tabs.2.1 s.tabs.2.2.1 s.tabs.2.2.2 s.title l1 l2=some s.t:=by
 unfold aV
 simp only [rleq]
 rw [show bv=some () from rfl]
 simp only [Option.bind_some]
 erw [DK h]
 rfl
def EH (t:EmuT):Bool:=t.2.1.2.1==0&&Nat.beq t.2.2.2.2.1 0
theorem E9 {t:EmuT} {R C:Nat} (h:EmuOK t R C) (l1 l2:List Int):ci t.2.1.2.1 t.2.2.2.2.1 l1 l2=some (EH t):=by
 unfold ci EH
 simp only [rleq]
 rw [show bv=some () from rfl]
 simp only [Option.bind_some]
 rw [show gf t.2.1.2.1=some t.2.1.2.1 from rfl]
 simp only [Option.bind_some]
 cases (t.2.1.2.1==0)
 ·rfl
 ·unfold iN
  have h3:=h.p.st
  rcases (by omega:t.2.2.2.2.1=0\/t.2.2.2.2.1=1\/t.2.2.2.2.1=2\/t.2.2.2.2.1=3) with e | e | e | e <;> rw [e] <;> rfl
structure Rel2 (o:List UInt8) (q q':FdT):Prop where
 o:q.1.1=o++q'.1.1
 s:fQ q.1.2.1 q.1.2.2=fQ q'.1.2.1 q'.1.2.2
 r:q.1.2.2.rows=q'.1.2.2.rows
 p:q.2=q'.2
theorem IG {o:List UInt8} {q q':List UInt8×List ChT×Sc} (ho:q.1=o++q'.1) (hs:fQ q.2.1 q.2.2=fQ q'.2.1 q'.2.2) (hr:q.2.2.rows=q'.2.2.rows) (a:ActT) :
  (rndM q a).1=o++(rndM q' a).1/\fQ (rndM q a).2.1 (rndM q a).2.2=fQ (rndM q' a).2.1 (rndM q' a).2.2/\(rndM q a).2.2.rows=(rndM q' a).2.2.rows:=by
 unfold rndM
 have e:fQ (q.2.1++chs q.2.2.rows a) q.2.2=fQ (q'.2.1++chs q'.2.2.rows a) q'.2.2:=by rw [zx,zx,hs,hr]
 cases asks a
 ·exact ⟨ho,e,hr⟩
 ·simp only [cond_true,e,ho,List.append_assoc,and_self]
theorem BJ {o:List UInt8}:∀(l:List ActT) {q q':List UInt8×List ChT×Sc},q.1=o++q'.1->fQ q.2.1 q.2.2=fQ q'.2.1 q'.2.2->q.2.2.rows=q'.2.2.rows ->
  (l.foldl rndM q).1=o++(l.foldl rndM q').1/\fQ (l.foldl rndM q).2.1 (l.foldl rndM q).2.2=fQ (l.foldl rndM q').2.1 (l.foldl rndM q').2.2/\(l.foldl rndM q).2.2.rows=(l.foldl rndM q').2.2.rows
 | [],q,q',h1,h2,h3=>⟨h1,h2,h3⟩
 | a::r,q,q',h1,h2,h3=>by
  obtain ⟨k1,k2,k3⟩:=IG h1 h2 h3 a
  exact BJ r k1 k2 k3
theorem zf {o:List UInt8}:∀(l:List Int) {q q':FdT},Rel2 o q q'->Rel2 o (l.foldl po q) (l.foldl po q')
 | [],q,q',h=>h
 | c::r,q,q',h=>by
  refine zf r ?_
  unfold po
  rw [h.p]
  obtain ⟨k1,k2,k3⟩:=BJ (putS c q'.2).1 h.o h.s h.r
  exact ⟨k1,k2,k3,rfl⟩
theorem Cf {t:EmuT} {R C:Nat} (h:EmuOK t R C) {a:List UInt8} (b:List UInt8) (ha:a.length<=3000):aX t (a++b)=((aX t a).1++(aX (aX t a).2 b).1,(aX (aX t a).2 b).2):=by
 have e:goM t (a++b)=(decA (decA t.2.1 a).2 b).1.foldl po (goM t a):=by
  unfold goM;rw [Cs,List.foldl_append]
 have hr:(goM t a).1.2.2.rows=(aX t a).2.1.rows:=by rw [(tE h ha).1.s.hr,(Hm h ha).r.ok.hr]
 have k:=zf (o:=(goM t a).1.1) (decA (decA t.2.1 a).2 b).1 (q:=goM t a) (q':=(([],[],(aX t a).2.1),(aX t a).2.2.2)) ⟨by simp,rfl,hr,rfl⟩
 have e2:(decA (decA t.2.1 a).2 b).1.foldl po (([],[],(aX t a).2.1),(aX t a).2.2.2)=goM (aX t a).2 b:=rfl
 rw [e2,<-e] at k
 have e3:(decA t.2.1 (a++b)).2=(decA (aX t a).2.2.1 b).2:=by rw [Cs];rfl
 show ((goM t (a++b)).1.1,fQ (goM t (a++b)).1.2.1 (goM t (a++b)).1.2.2,(decA t.2.1 (a++b)).2,(goM t (a++b)).2)=_
 rw [k.o,k.s,k.p,e3]
 rfl
end Go.SH
set_option maxRecDepth 8000
namespace Go.SH
theorem bndE {α β:Type} {o:Option α} {x:α} {f:α->Option β} {y:Option β} (h:o=some x) (k:f x=y):o.bind f=y:=by rw [h];exact k
theorem orN {α:Type} {a b:Option α} {y:Option α} (h:a=none) (k:b=y):orE a b=y:=by rw [h];exact k
theorem sub3 (b:List UInt8) {m n:Nat} (h1:m<=n) (h2:n<=b.length):(sub b 0 m++sub b m n)++sub b n b.length=b:=by
 unfold sub
 rw [List.drop_zero,Nat.sub_zero,List.take_of_length_le (l:=b.drop n) (by simp)]
 have:b.take m++(b.drop m).take (n-m)=b.take n:=by
  rw [show n=m+(n-m) by omega,List.take_add]
  simp
 rw [this,List.take_append_drop]
theorem Af (b:List UInt8) (m n:Nat):(sub b m n).length<=b.length:=by unfold sub;simp;omega
theorem BK (a0 a1:Int) (b:List UInt8) (a3 a4:Int):gr a0 a1 b a3 a4=some true:=by
 unfold gr
 rw [show gS=some true from rfl]
 simp only [bq,bi,Option.bind_some,Bool.not_true,cond_false]
 cases hb:(bif decide (a0<1) then true else bif decide (a0>30) then true else bif decide (a1<1) then true else bif decide (a1>30) then true else bif decide ((b.length:Int)>1500) then true
  else bif decide (a3<0) then true else bif decide (a3>(b.length:Int)) then true else bif decide (a4<a3) then true else decide (a4>(b.length:Int))) with
 | true=>rfl
 | false=>
  have hc:∀p q:Bool,(bif p then true else q)=(p||q):=by decide
  simp only [hc,Bool.or_eq_false_iff,decide_eq_false_iff_not] at hb
  simp only [cond_false]
  obtain ⟨q1,q2,q3,q4,q5,q6,q7,q8,q9⟩:=hb
  obtain ⟨R,rfl⟩:∃R:Nat,a0=R:=⟨a0.toNat,by omega⟩
  obtain ⟨C,rfl⟩:∃C:Nat,a1=C:=⟨a1.toNat,by omega⟩
  obtain ⟨m,rfl⟩:∃m:Nat,a3=m:=⟨a3.toNat,by omega⟩
  obtain ⟨n,rfl⟩:∃n:Nat,a4=n:=⟨a4.toNat,by omega⟩
  have hz:szR R C:=by unfold szR;omega
  refine orN (H8 hz _) (bndE (E5 hz) (orN (H8 hz _) (bndE (E5 hz) ?_)))
  have h0:=FK hz
  have hlen:b.length<=3000:=by omega
  refine bndE (CM (t:=cV R C) h0 rfl rfl hlen) ?_
  simp only [rleq,aM]
  rw [ae (by omega),Int.toNat_natCast,Int.toNat_natCast]
  have s1:(sub b 0 m).length<=3000:=Nat.le_trans (Af b 0 m) hlen
  have s2:(sub b m n).length<=3000:=Nat.le_trans (Af b m n) hlen
  have s3:(sub b n b.length).length<=3000:=Nat.le_trans (Af b n b.length) hlen
  have f1:=tE h0 s1
  have f2:=tE f1.1 s2
  have f3:=tE f2.1 s3
  have f4:=tE h0 hlen
  refine bndE (CM (t:=cV R C) h0 rfl rfl s1) ?_
  rw [ae (by omega)]
  refine bndE (Fb (t:=(aX (cV R C) (sub b 0 m)).2) f1.1 s2) ?_
  have l1:(outM (aX (cV R C) (sub b 0 m))).1.length<=1000000:=f1.2
  have l2:(outM (aX (aX (cV R C) (sub b 0 m)).2 (sub b m n))).1.length<=1000000:=f2.2
  have l3:(outM (aX (aX (aX (cV R C) (sub b 0 m)).2 (sub b m n)).2 (sub b n b.length))).1.length<=1000000:=f3.2
  rw [ae (by omega),ae (by omega)]
  refine bndE (Fb (t:=(aX (aX (cV R C) (sub b 0 m)).2 (sub b m n)).2) f2.1 s3) ?_
  rw [ae (by simp only [List.length_append];omega)]
  have hp:aX (cV R C) b=(((aX (cV R C) (sub b 0 m)).1++(aX (aX (cV R C) (sub b 0 m)).2 (sub b m n)).1)++(aX (aX (aX (cV R C) (sub b 0 m)).2 (sub b m n)).2 (sub b n b.length)).1,
    (aX (aX (aX (cV R C) (sub b 0 m)).2 (sub b m n)).2 (sub b n b.length)).2):=by
   have e:=Cf h0 (a:=sub b 0 m++sub b m n) (sub b n b.length) (by
    have:(sub b 0 m++sub b m n).length<=b.length:=by
     have:=congrArg List.length (sub3 b (show m<=n by omega) (show n<=b.length by omega))
     simp only [List.length_append] at this ⊢;omega
    omega)
   rw [sub3 b (by omega) (by omega),Cf h0 (sub b m n) s1] at e
   exact e
  have heq:((outM (aX (cV R C) b)).1==((outM (aX (cV R C) (sub b 0 m))).1++(outM (aX (aX (cV R C) (sub b 0 m)).2 (sub b m n))).1)++(outM (aX (aX (aX (cV R C) (sub b 0 m)).2 (sub b m n)).2 (sub b n b.length))).1)=true:=by
   rw [beq_iff_eq]
   show (aX (cV R C) b).1=_
   rw [hp];rfl
  rw [heq]
  simp only [cond_true]
  refine bndE (uY (s:=(aX (cV R C) b).2.1) f4.1.s _ _) ?_
  refine bndE (uY (s:=(aX (aX (aX (cV R C) (sub b 0 m)).2 (sub b m n)).2 (sub b n b.length)).2.1) f3.1.s _ _) ?_
  have hs:(aX (aX (aX (cV R C) (sub b 0 m)).2 (sub b m n)).2 (sub b n b.length)).2=(aX (cV R C) b).2:=by rw [hp]
  rw [hs]
  refine bndE f4.1.s.same ?_
  simp only [cond_true]
  refine bndE (E9 (t:=(aX (cV R C) b).2) f4.1 _ _) ?_
  have hi:=E9 (t:=(aX (aX (aX (cV R C) (sub b 0 m)).2 (sub b m n)).2 (sub b n b.length)).2) f3.1
  refine bndE (hi _ _) ?_
  rw [hs]
  rw [show (EH (aX (cV R C) b).2==EH (aX (cV R C) b).2)=true from beq_self_eq_true _]
  simp only [cond_true]
  refine bndE (uY (s:=(aX (cV R C) b).2.1) f4.1.s _ _) ?_
  exact bndE (D8 f4.1.s) rfl
end Go.SH
namespace Go.SH
variable [SentA]
def tQ (s:St):Bool:=
 (s.al.all fun p=>p.2.labsN fun l=>(keys s.L).elem l)&&(s.L.all fun p=>iM (fun l=>(keys s.L).elem l) p.2) && !(keys s.L).elem ylab
theorem rY {s:St} (h:tQ s=true):(∀p∈dal s.al,am (hasL (dlb s.L)) p.2=true)/\(∀l cells,lget (dlb s.L) l=some (some cells)->ag (hasL (dlb s.L)) cells=true)/\hasL (dlb s.L) ylab=false:=by
 simp only [tQ,Bool.and_eq_true,Bool.not_eq_true'] at h
 obtain ⟨⟨h1,h2⟩,h3⟩:=h
 rw [dj]
 refine ⟨fun p hp=>?_,fun l cells hl=>?_,h3⟩
 ·obtain ⟨q,hq,rfl⟩:=List.mem_map.1 hp
  exact pD (List.all_eq_true.1 h1 q hq)
 ·obtain ⟨⟨l',c⟩,hq,e⟩:=List.mem_map.1 (ai hl)
  simp only [Prod.mk.injEq] at e;obtain ⟨rfl,e⟩:=e
  have h8:=List.all_eq_true.1 h2 _ hq
  cases c with
  | gone=>simp [DC.pv] at e
  | cs ds=>simp [DC.pv] at e;subst e;exact ek h8
  | ls t x=>
   simp [DC.pv] at e;subst e
   simp only [iM,Bool.or_eq_true] at h8
   exact fH h8 _
def oo (ps:List Nat) (xs:List DV) (ts:List Nat) (vs:List DV):DAl:=(ps.zip xs).foldl (fun al p=>p::al) (ts.zip vs)
theorem DG (ps:List Nat) (xs:List DV) (ts:List Nat) (vs:List DV):dal (oo ps xs ts vs)=Aa ps (DV.pvs xs) ts (DV.pvs vs):=by
 have h0:∀(ts:List Nat) (vs:List DV),dal (ts.zip vs)=ts.zip (DV.pvs vs):=by
  intro ts
  induction ts with
  | nil=>intro vs;rfl
  | cons t ts ih=>
   intro vs
   cases vs with
   | nil=>rfl
   | cons v vs=>show (t,v.pv)::dal (ts.zip vs)=_;rw [ih];rfl
 have h1:∀(ps:List Nat) (xs:List DV) (al:DAl),dal ((ps.zip xs).foldl (fun al p=>p::al) al)=(ps.zip (DV.pvs xs)).foldl (fun al p=>p::al) (dal al):=by
  intro ps
  induction ps with
  | nil=>intro xs al;rfl
  | cons p ps ih=>
   intro xs al
   cases xs with
   | nil=>rfl
   | cons x xs=>simp only [List.zip_cons_cons,List.foldl_cons,DV.pvs];rw [ih];rfl
 unfold oo Aa
 rw [h1,h0]
theorem KZ {ts:List Nat} {vs:List DV} (h:DV.oks vs):alOk (ts.zip vs):=fun t x hx=>by
 have:=ai hx
 exact bS.1 h x (List.of_mem_zip this).2
theorem DH {ps:List Nat} {xs:List DV} {ts:List Nat} {vs:List DV} (h1:DV.oks xs) (h2:DV.oks vs):alOk (oo ps xs ts vs):=by
 have key:∀(ps:List Nat) (xs:List DV) (al:DAl),DV.oks xs->alOk al->alOk ((ps.zip xs).foldl (fun al p=>p::al) al):=by
  intro ps
  induction ps with
  | nil=>intro xs al _ h;exact h
  | cons p ps ih=>
   intro xs al h1 h
   cases xs with
   | nil=>exact h
   | cons x xs=>
    simp only [List.zip_cons_cons,List.foldl_cons]
    refine ih xs _ h1.2 fun t y hy=>?_
    simp only [lget] at hy
    split at hy
    ·simp at hy;subst hy;exact h1.1
    ·exact h t y hy
 exact key ps xs _ h1 (KZ h2)
def DY (E:Env) (G:GTab) (C:CT E) (y nv:Nat) (ha hb:Hint) (ar:List Sh) (ls:List (Nat×LSh)) (ot:Tm) (a:HT (Sh.hss ar++hsL ls)):Option ot.T:=
 let b:=inS ar ls (ab _ a)
 let ds:=inA ar ls (ab _ a)
 let Y:=SentA.yt y
 D E G C Y.n Y.assign ha ot.T (keys ls) ⟨oo Y.ps (ds.drop nv) Y.ts (ds.take nv),b.L,[],[]⟩
  (fun s=>match tQ s with
   | true=>D E G C Y.n Y.body hb ot.T (keys ls) s (fun s=>ot.leafK (keys ls) b ⟨[(0,.bool true)],s.L,[0],s.dl⟩ some) fun _ _=>none
   | false=>none) fun _ _=>none
theorem Mh {E:Env} {G:GTab} {C:∀l:Nat,CT (E.on (some l) none)} (hm:E.P.follows .mixedOrders=true) (hG:E.G=gtPV G) (hE:GOK E) {y nv:Nat} {ha hb:Hint} {ar:List Sh} {ls:List (Nat×LSh)} {ot:Tm}
  (hk:Sh.kOKs ar=true/\(ls.all fun p=>p.2.kOK)=true/\qQ ot=true/\((keys ls).elem ylab=false)/\(nv<=ar.length/\(SentA.yt y).ts.length=nv/\(SentA.yt y).ps.length+nv=ar.length)/\((SentA.yt y).ps.all fun p=>decide (p<(SentA.yt y).n))=true)
  {a:HT (Sh.hss ar++hsL ls)} {v:ot.T} (hcl:tQ (ot.app v (inS ar ls (ab _ a)))=true) (hv:∀l,DY (E.on (some l) none) G (C l) y nv ha hb ar ls ot a=some v) (ro:Option Nat) (cvs cxs:List Value) (e1:cvs.length+cxs.length=ar.length) (e2:cxs.length=(SentA.yt y).ps.length)
  (hres:(resV (ot.app v (inS ar ls (ab _ a)))).pv = .bool true) :
  qX E ⟨0,ar,ls,ot,fun _=>none⟩ a v (rb ro E.P (SentA.yt y).n (SentA.yt y).ps (SentA.yt y).assign (SentA.yt y).body (SentA.yt y).ts cvs cxs):=by
 obtain ⟨hk1,hk2,hk3,hk4,⟨hk5,hk6,hk7⟩,hk8⟩:=hk
 have hlen:(inA ar ls (ab _ a)).length=ar.length:=by unfold inA;rw [n8]
 have hoks:DV.oks (inA ar ls (ab _ a)):=lH _ _ _ hk1
 obtain ⟨c1,c2,c3⟩:=rY hcl
 obtain ⟨V,hV⟩:=qa hk3 v (b:=inS ar ls (ab _ a))
 have hres':V.pv = .bool true:=by unfold resV at hres;rw [hV] at hres;exact hres
 have hbok:(inS ar ls (ab _ a)).ok:=⟨fun t x hx=>by simp [inS,lget] at hx,fun l c hl=>ln hk2 (l,c) (ai hl)⟩
 have hK:∀l,lget (dlb (inL ar ls (ab _ a))) l≠none->l∈keys ls:=fun l hl=>by
  have:hasL (dlb (inL ar ls (ab _ a))) l=true:=by simpa [hasL,Option.isSome_iff_ne_none] using hl
  rw [dj] at this
  unfold inL at this
  rw [show keys (mkL (kG ar ls (ab _ a)) ls (Sh.mks (kG ar ls (ab _ a)) ar (ab _ a)).2).1=keys ls from gw _ _ _] at this
  simpa using this
 unfold qX
 show cL E _ (DV.pvs (inA ar ls (ab _ a))) (dlb (inL ar ls (ab _ a))) fun x L=>x=(resV (ot.app v (inS ar ls (ab _ a)))).pv/\L=dlb (ot.app v (inS ar ls (ab _ a))).L
 rw [hres]
 have hsplit:DV.pvs (inA ar ls (ab _ a))=DV.pvs ((inA ar ls (ab _ a)).take nv)++DV.pvs ((inA ar ls (ab _ a)).drop nv):=by rw [<-bO,List.take_append_drop]
 rw [hsplit]
 have hoT:DV.oks ((inA ar ls (ab _ a)).take nv):=bS.2 fun x hx=>bS.1 hoks x (List.mem_of_mem_take hx)
 have hoD:DV.oks ((inA ar ls (ab _ a)).drop nv):=bS.2 fun x hx=>bS.1 hoks x (List.mem_of_mem_drop hx)
 refine Fk hE (fun l=>?_) c2 c3 (by rw [aB];simp [hlen,hk6];omega) (by rw [aB];simp [hlen];omega) (fun p hp=>by simpa using List.all_eq_true.1 hk8 p hp) (by rw [aB];simp [hlen];omega) (by rw [aB];simp [hlen];omega)
 rw [<-DG]
 have hvl:=hv l
 unfold DY at hvl
 simp only at hvl
 have hs0:St.ok ⟨oo (SentA.yt y).ps ((inA ar ls (ab _ a)).drop nv) (SentA.yt y).ts ((inA ar ls (ab _ a)).take nv),(inS ar ls (ab _ a)).L,[],[]⟩:=⟨DH hoD hoT,hbok.2⟩
 refine D_ok (E:=E.on (some l) none) (s:=⟨oo (SentA.yt y).ps ((inA ar ls (ab _ a)).drop nv) (SentA.yt y).ts ((inA ar ls (ab _ a)).take nv),(inS ar ls (ab _ a)).L,[],[]⟩) hm hG hE hK (SentA.yt y).assign hvl hs0 (fun s1 hu hok hr=>?_) (fun _ _ _ _ _ h=>by simp at h)
 split at hr
 rotate_left
 ·simp at hr
 rename_i hc1
 obtain ⟨d1,d2,d3⟩:=rY hc1
 refine ⟨rfl,d1,d2,d3,qA (D_ok (E:=E.on (some l) none) (Q:=fun e al L=>e = .normal/\∃s2:St,Up s1 s2/\s2.ok/\al=dal s2.al/\L=dlb s2.L/\ot.leafK (keys ls) (inS ar ls (ab _ a)) ⟨[(0,.bool true)],s2.L,[0],s2.dl⟩ some=some v) hm hG hE hK (SentA.yt y).body hr hok (fun s2 hu2 hok2 hr2=>⟨rfl,s2,hu2,hok2,rfl,rfl,hr2⟩) (fun _ _ _ _ _ h=>by simp at h)) ?_⟩
 rintro e al L ⟨rfl,s2,hu2,hok2,rfl,rfl,hr2⟩
 obtain ⟨w,hw,hr3⟩:=iy hr2
 simp at hr3;subst hr3
 have he:Ext (inS ar ls (ab _ a)) ⟨[(0,.bool true)],s2.L,[0],s2.dl⟩:=by
  have h0:Ext ⟨oo (SentA.yt y).ps ((inA ar ls (ab _ a)).drop nv) (SentA.yt y).ts ((inA ar ls (ab _ a)).take nv),(inS ar ls (ab _ a)).L,[],[]⟩ s2:=hu2 _ (hu _ (.refl _))
  exact ⟨fun t ht=>by simp only [List.mem_singleton] at ht;simp [lget,inS,Ne.symm ht],h0.lb,h0.ce⟩
 have hWk:=(j7 (E:=E.on (some l) none) (K:=fun l=>lget (dlb (inL ar ls (ab _ a))) l≠none) hw he ⟨fun t x hx=>by
   simp only [lget] at hx
   split at hx
   ·simp at hx;subst hx;trivial
   ·simp at hx,hok2.2⟩ hbok hK hE).1
 refine ⟨[],dlb (ot.app w (inS ar ls (ab _ a))).L,fun A W σ ac r=>?_,rfl,rfl⟩
 obtain ⟨σ2,r2,g2⟩:=hWk A W σ { tmps:=#[.bool true],defers:=ac.defers } ⟨fun t x hx=>by
  simp only [dal,List.map_cons,List.map_nil,lget] at hx
  split at hx
  ·rename_i e;subst e;simp at hx;subst hx;exact ⟨.bool true,rfl,.bool true⟩
  ·simp at hx,r.blocks,r.globals,r.nodefer⟩
 exact ⟨σ2,⟨fun t x hx=>by simp [lget] at hx,r2.blocks,r2.globals,r2.nodefer⟩,g2⟩
end Go.SH
namespace Go.SH
variable [SentA]
def PCon.on {E:Env} (c:PCon E) (ro mb:Option Nat):PCon (E.on ro mb):=⟨c.f,c.ar,c.out,c.fn,c.run,c.ok⟩
def ICon.on {E:Env} (c:ICon E) (ro mb:Option Nat):ICon (E.on ro mb):=⟨c.f,c.ar,c.ls,c.ot,c.fn,c.run,c.ok⟩
def YCon.on {E:Env} (c:YCon E) (ro mb:Option Nat):YCon (E.on ro mb):=⟨c.y,c.ar,c.ls,c.ot,c.fn,c.ok,c.res⟩
def CT.on {E:Env} (C:CT E) (ro mb:Option Nat):CT (E.on ro mb):=⟨fun i=>(C.p i).map fun c=>c.on ro mb,fun i=>(C.i i).map fun c=>c.on ro mb,fun i=>(C.y i).map fun c=>c.on ro mb⟩
structure RCon (E:Env) where
 y:Nat
 f:FuncId
 ar:List Sh
 ls:List (Nat×LSh)
 ot:Tm
 fn:HT (Sh.hss ar++hsL ls)->Option ot.T
 run:∀args w,(callFunc f args).run E.P w = .ok (.enter f args) w
 ok:∀a v,fn a=some v->∀(tmps:Array Value) (cvs cs:List Value),tmps.size=(SentA.yt y).n->cvs.length=(SentA.yt y).ts.length->cvs.length+cs.length=ar.length ->
  (∀(i t:Nat) (v:Value),(SentA.yt y).ts[i]?=some t->cvs[i]?=some v->tmps[t]?=some v) ->
  qX E ⟨f,ar,ls,ot,fn⟩ a v (rA E.P f tmps (SentA.yt y).ps (SentA.yt y).assign (SentA.yt y).body cvs cs)
 res:∀v vs,(resV (ot.app v (inS ar ls vs))).pv = .tup []
def RCon.core {E:Env} (c:RCon E):ICore:=⟨c.f,c.ar,c.ls,c.ot,c.fn⟩
def RCon.on {E:Env} (c:RCon E) (ro mb:Option Nat):RCon (E.on ro mb):=⟨c.y,c.f,c.ar,c.ls,c.ot,c.fn,c.run,c.ok,c.res⟩
def Cm (al:DAl):List Nat->Option (List DV)
 | []=>some []
 | t::r=>match lget al t with
  | some x=>match Cm al r with
   | some xs=>some (x::xs)
   | none=>none
  | none=>none
theorem Cl {al:DAl}:∀{ts:List Nat} {vs:List DV},Cm al ts=some vs->ts.length=vs.length/\∀(i t:Nat) (x:DV),ts[i]?=some t->vs[i]?=some x->lget al t=some x
 | [],vs,h=>by simp [Cm] at h;subst h;simp
 | t::r,vs,h=>by
  simp only [Cm] at h
  split at h
  ·rename_i x hx
   split at h
   ·rename_i xs hxs
    simp at h;subst h
    obtain ⟨h1,h2⟩:=Cl hxs
    refine ⟨by simp [h1],fun i u y hu hy=>?_⟩
    cases i with
    | zero=>simp at hu hy;subst hu;subst hy;exact hx
    | succ i=>exact h2 i u y (by simpa using hu) (by simpa using hy)
   ·simp at h
  ·simp at h
def runR {E:Env} (G:GTab) (con:RCon E):RunJ:=fun c _ R _ s kn _=>match c with
 | .rangeFunc g _ _ _=>match dev G s.al g with
  | some (.fn f caps)=>match Cm s.al (SentA.yt con.y).ts with
   | some vs=>match Nat.beq (vs.length+caps.length) con.ar.length with
    | true=>uS false s.L (frOf s.L) con.core f (vs++caps) fun _ wl dl=>kn (s.wr wl dl)
    | false=>none
   | none=>none
  | _=>none
 | _=>none
theorem IC {E:Env} {K:Nat->Prop} {n:Nat} {ks:List Nat} {G:GTab} {con:RCon E} (hG:E.G=gtPV G) (hE:GOK E) {b:Nat} (hro:E.ro=none) (hmb:E.mb=some b) {g:Operand} {ps:Array Tmp} (hps:ps.toList=(SentA.yt con.y).ps) (hn:(SentA.yt con.y).n=n) :
  JOK1 E K n ks (runR G con) (.rangeFunc g ps (SentA.yt con.y).assign (SentA.yt con.y).body):=by
 intro h R s kn kx r Q hr hs hkn hkx
 simp only [runR] at hr
 split at hr
 rotate_left
 ·simp at hr
 rename_i f caps hf
 split at hr
 rotate_left
 ·simp at hr
 rename_i vs hvs
 split at hr
 rotate_left
 ·simp at hr
 rename_i hlen
 have hlen:=Nat.eq_of_beq_eq_true hlen
 obtain ⟨hf',_⟩:=bj hs.1 hf
 rw [<-hG] at hf'
 obtain ⟨d1,d2⟩:=Cl hvs
 obtain ⟨a,v,x,wl,dl,L2,LL,hfe,hv,hxk,hwlok,hdirty,hr2,⟨τ,hxe⟩,hR,hA1,hA2,hA3,hA4,hstate,hwc,hs1,hs2⟩:=pQ hE hs.2 hr
 have hfe:con.f=f:=hfe
 subst hfe
 have hxt:x.pv = .tup []:=by
  rw [hxe]
  have e:(resV (con.core.ot.app v (inS con.core.ar con.core.ls (ab (Sh.hss con.core.ar++hsL con.core.ls) a)))).pv = .tup []:=con.res v _
  rw [e];rfl
 rw [bO] at hA1
 obtain ⟨k1,k2⟩:=hwc (L:=dlb s.L) (fun _ _ h=>h) fun p _=>by
  cases hc:lget (dlb s.L) p.1 with
  | none=>exact .inr rfl
  | some y=>exact .inl (by simp)
 have hfin:=hkn (s.wr wl dl) (u9 hdirty) (va hs hwlok) hr2
 refine Ij (vs:=DV.pvs vs) (caps:=DV.pvs caps) (ts:=(SentA.yt con.y).ts) (rl:=L2) (LL:=LL) (wl:=dlb wl) hro hmb hE hf' con.run (fun i t y ht hy=>?_) (by rw [aB];exact d1) (fun tmps cvs cs e1 e2 e3 e4=>?_) hA1 hA2 hA3 hA4 hstate (hs1 rfl) k1 k2 ?_
 ·rw [nW] at hy
  cases hd:vs[i]? with
  | none=>rw [hd] at hy;simp at hy
  | some z=>
   rw [hd] at hy;simp at hy;subst hy
   rw [aZ,d2 i t z ht hd];rfl
 ·rw [aB] at e2 e3
  have:=hR _ vh (con.ok a v hv tmps cvs cs (by rw [hn];exact e1) (by rw [e2,d1]) (by rw [e2,e3];exact hlen) e4)
  rw [bO,hxt] at this
  rw [hps];exact this
 ·rw [py];exact hfin
theorem yu {E:Env} {f:FuncId} {fn:Func} {c:Code} {args:List PV} {L L1:Lb} {al1:Al} {V:PV} (hf:E.P.funcs[f]?=some fn) (hb:fn.body=some c) (hn:args.length<=fn.ntmps) (hV:lget al1 0=some V)
  (h:∀b,AW (E.on none (some b)) (fun l=>lget L l≠none) fn.ntmps c (fun e al L'=>(match e with | .normal=>True | .ret=>True | _=>False)/\∃xs,xres E.P al L' fn.results.toList=some xs/\Weak (E.on none (some b)) (fun l=>lget L l≠none) [(0,rtup xs)] L' al1 L1) (lQ args 0) L) :
  dQ E f args L fun x L'=>x=V/\L'=L1:=by
 intro A w σ cargs hl hv hbr hg
 refine (callsIn_wide (n:=0)).1 (callsIn_of_wp_marks hf hb trivial (wpIn_mono (h w.heap.size A w σ _ ⟨?_,hbr,hg,⟨Nat.le_refl _,by simp,.nil⟩⟩ ?_) ?_))
 ·intro t x hx
  obtain ⟨h1,h2⟩:=jU args 0 t x hx
  simp at h2
  have ht:t<cargs.length:=by rw [hl];exact (List.getElem?_eq_some_iff.1 h2).1
  exact ⟨cargs[t],by rw [Array.getElem?_append_left (by simpa using ht)];simp [ht],hv t x _ h2 (List.getElem?_eq_getElem ht)⟩
 ·simp;omega
 ·rintro e a' w' ⟨al',L',σ',⟨he,xs,hx,hW⟩,r',g',t'⟩
  have key:∀(ds:List Deferred) (w2:World),Rel (E.on none (some w.heap.size)) A w2 σ' al' L' { tmps:=a'.tmps,defers:=ds }->Grow (fun l=>lget L l≠none) w σ L w2 σ' L' ->
    LeavesInM Fence.wide 0 E.P fn a'.tmps (fun e w'=>∃r c L' σ',e = .returned c/\(r=V/\L'=L1)/\VR w' σ' (avo A σ' L') r c/\BR w' σ' A L'/\Grow (fun l=>lget L l≠none) w σ L w' σ' L') ds .returning w2:=by
   intro ds
   induction ds with
   | nil=>
    intro w2 r2 g2
    obtain ⟨v,h1,h2⟩:=gl r2 hx
    have r1:Rel (E.on none (some w.heap.size)) A w2 σ' [(0,rtup xs)] L' { tmps:=#[v],defers:=[] }:=⟨fun t x hx=>by
     simp only [lget] at hx
     split at hx
     ·rename_i e;subst e;simp at hx;subst hx;exact ⟨v,rfl,h2⟩
     ·simp at hx,r2.blocks,r2.globals,r2.nodefer⟩
    obtain ⟨σ3,r3,g3⟩:=hW A w2 σ' _ r1
    obtain ⟨u,h3,h4⟩:=r3.tmps 0 V hV
    simp at h3;subst h3
    exact ⟨v,h1,_,v,L1,σ3,rfl,⟨rfl,rfl⟩,h4,r3.blocks,g2.trans g3⟩
   | cons d ds ih=>
    intro w2 r2 g2
    obtain ⟨m1,m2,m3⟩:=r2.nodefer
    obtain ⟨r,e1,e2,e3⟩:=m2 d (by simp)
    have hT:=Turn.put w2 r (.deferred none)
    have hnc:∀c T fr,Obj.deferred (some []) ≠ .cells c T fr:=fun _ _ _ h=>by cases h
    have hnl:∀q,Obj.deferred (some []) ≠ .loop q:=fun _ h=>by cases h
    refine ⟨by simp,.inl ⟨r,_,e1,run_takeDeferred e3,ih _ ⟨fun t x hx=>?_,r2.blocks.turn (S:=fun _=>true) hT e3 hnc (.inl hnl),fun g cells hgc=>(r2.globals g cells hgc).turn (S:=fun _=>true) hT e3 hnc (.inl hnl),?_⟩ (g2.turn hT (.inl e2) fun q β add k=>(hbr.fr.fam q β add k).1)⟩⟩
    ·obtain ⟨v,h1,h2⟩:=r2.tmps t x hx
     exact ⟨v,h1,h2.turn (S:=fun _=>true) hT e3 hnc (.inl hnl)⟩
    ·refine ⟨by simpa using m1,fun d2 hd2=>?_,(List.pairwise_cons.1 m3).2⟩
     obtain ⟨r2',f1,f2,f3⟩:=m2 d2 (List.mem_cons_of_mem _ hd2)
     have hne:r2'≠r:=by
      intro e
      exact (List.pairwise_cons.1 m3).1 d2 hd2 (by rw [e1,f1,e])
     exact ⟨r2',f1,f2,(World.putObj_heap_other hne).trans f3⟩
  have:=key a'.defers w' ⟨r'.tmps,r'.blocks,r'.globals,r'.nodefer⟩ g'
  cases e with
  | normal=>exact this
  | ret=>exact this
  | _=>exact he.elim
def DIr {E:Env} (G:GTab) (C:CT E) (con:RCon E) (n:Nat) (rs:List ResultVar) (c:Code) (h:Hint) (ar:List Sh) (ls:List (Nat×LSh)) (ot:Tm) (a:HT (Sh.hss ar++hsL ls)) (vs:List Nat:=[]):Option ot.T:=
 let b:=inS ar ls (ab _ a)
 let fin (s:St):Option ot.T:=match dres E.P s rs with
  | some ds=>ot.leafK (keys ls) b ⟨[(0,dtup ds)],s.L,[0],s.dl⟩ some
  | none=>none
 wK vs b.L fun L=>DJ (runR G con) E G C n c h ot.T (keys ls) ⟨dE (inA ar ls (ab _ a)) 0,L,[],vs.map fun v=>(v,none)⟩ fin fun e s=>match e with
  | .ret=>fin s
  | _=>none
theorem Ic {E:Env} {G:GTab} {C:CT E} {con:RCon E} (hm:E.P.follows .mixedOrders=true) (hG:E.G=gtPV G) (hE:GOK E) {f:FuncId} {fn:Func} {c:Code} (hf:E.P.funcs[f]?=some fn) (hb:fn.body=some c)
  {g:Operand} {ps:Array Tmp} (hrg:fM c=some [.rangeFunc g ps (SentA.yt con.y).assign (SentA.yt con.y).body]) (hps:ps.toList=(SentA.yt con.y).ps) (hnn:(SentA.yt con.y).n=fn.ntmps)
  {h:Hint} {ar:List Sh} {ls:List (Nat×LSh)} {ot:Tm} {vs:List Nat} (hk:Sh.kOKs ar=true/\(ls.all fun p=>p.2.kOK)=true/\qQ ot=true/\decide (ar.length<=fn.ntmps)=true) {a:HT (Sh.hss ar++hsL ls)} {v:ot.T} (hv0:∀b:Nat,DIr G (C.on none (some b)) (con.on none (some b)) fn.ntmps fn.results.toList c h ar ls ot a vs=some v) :
  dQ E f (DV.pvs (inA ar ls (ab _ a))) (dlb (inL ar ls (ab _ a))) fun x L=>x=(resV (ot.app v (inS ar ls (ab _ a)))).pv/\L=dlb (ot.app v (inS ar ls (ab _ a))).L:=by
 obtain ⟨hk1,hk2,hk3,hk4⟩:=hk
 simp only [decide_eq_true_eq] at hk4
 obtain ⟨V,hV⟩:=qa hk3 v (b:=inS ar ls (ab _ a))
 have hres:resV (ot.app v (inS ar ls (ab _ a)))=V:=by unfold resV;rw [hV]
 rw [hres]
 have hbok:(inS ar ls (ab _ a)).ok:=⟨fun t x hx=>by simp [inS,lget] at hx,fun l c hl=>ln hk2 (l,c) (ai hl)⟩
 have hK:∀l,lget (dlb (inL ar ls (ab _ a))) l≠none->l∈keys ls:=fun l hl=>by
  have:hasL (dlb (inL ar ls (ab _ a))) l=true:=by simpa [hasL,Option.isSome_iff_ne_none] using hl
  rw [dj] at this
  unfold inL at this
  rw [show keys (mkL (kG ar ls (ab _ a)) ls (Sh.mks (kG ar ls (ab _ a)) ar (ab _ a)).2).1=keys ls from gw _ _ _] at this
  simpa using this
 refine yu hf hb (by rw [aB];unfold inA;rw [n8];exact hk4) (by rw [aZ,hV];rfl) fun b=>?_
 rw [<-nD]
 obtain ⟨L0,hv,hL0,hvs,hW⟩:=o4 (E:=E.on none (some b)) (K:=fun l=>lget (dlb (inL ar ls (ab _ a))) l≠none) (al:=dal (dE (inA ar ls (ab _ a)) 0)) (hv0 b) hbok.2
 refine cY hW ?_
 have hbase:Ext ⟨dE (inA ar ls (ab _ a)) 0,(inS ar ls (ab _ a)).L,[],[]⟩ ⟨dE (inA ar ls (ab _ a)) 0,L0,[],vs.map fun v=>(v,none)⟩:=by
  have hno:∀{l:Nat},(l,none) ∉ (vs.map fun v=>((v,none):Nat×Option Nat))->l ∉ vs:=fun {l} h hm=>h (List.mem_map.2 ⟨l,hm,rfl⟩)
  refine ⟨fun _ _=>rfl,fun l hl=>hvs l (hno (hl none)),fun l cs0 hl h0=>⟨cs0,?_,rfl,fun _ _=>rfl⟩⟩
  rw [<-h0];exact hvs l (hno hl)
 have hfin:∀s:St,Up ⟨dE (inA ar ls (ab _ a)) 0,L0,[],vs.map fun v=>(v,none)⟩ s->s.ok->(match dres E.P s fn.results.toList with
   | some ds=>ot.leafK (keys ls) (inS ar ls (ab _ a)) ⟨[(0,dtup ds)],s.L,[0],s.dl⟩ some
   | none=>none)=some v->∃xs,xres E.P (dal s.al) (dlb s.L) fn.results.toList=some xs/\Weak (E.on none (some b)) (fun l=>lget (dlb (inL ar ls (ab _ a))) l≠none) [(0,rtup xs)] (dlb s.L) (dal (ot.app v (inS ar ls (ab _ a))).al) (dlb (ot.app v (inS ar ls (ab _ a))).L):=by
  intro s hu hs hr
  split at hr
  ·rename_i ds hds
   obtain ⟨h1,h2⟩:=ou hs hds
   refine ⟨_,h1,?_⟩
   obtain ⟨w,hw,hr⟩:=iy hr
   simp at hr;subst hr
   have he:=hu _ hbase
   have:=(j7 (E:=E.on none (some b)) (K:=fun l=>lget (dlb (inL ar ls (ab _ a))) l≠none) hw ⟨fun t ht=>?_,he.lb,he.ce⟩ ⟨fun t x hx=>?_,hs.2⟩ hbok hK hE).1
   ·rw [<-wy];exact this
   ·simp only [List.mem_singleton] at ht
    simp [lget,inS,Ne.symm ht]
   ·simp only [lget] at hx
    split at hx
    ·simp at hx;subst hx
     exact AJ h2
    ·simp at hx
  ·simp at hr
 refine Ib (E:=E.on none (some b)) (JS:=fun c'=>c' = .rangeFunc g ps (SentA.yt con.y).assign (SentA.yt con.y).body) (s:=⟨dE (inA ar ls (ab _ a)) 0,L0,[],vs.map fun v=>(v,none)⟩) hm hG hE hK (fun c' hc'=>?_) c (Cov.of hrg fun x hx=>by simpa using hx) hv ⟨nE (lH _ _ _ hk1),hL0⟩
  (fun s' hu hok hr=>⟨trivial,hfin s' hu hok hr⟩) fun e s' hne hu hok hr=>by
   cases e with
   | ret=>exact ⟨trivial,hfin s' hu hok hr⟩
   | _=>simp at hr
 subst hc'
 exact IC (E:=E.on none (some b)) (con:=con.on none (some b)) hG hE rfl rfl hps hnn
end Go.SH
namespace Go.SH
variable [SentA]
def DR (E:Env) (G:GTab) (C:CT E) (y nv:Nat) (n:Nat) (rs:List ResultVar) (c:Code) (h:Hint) (ar:List Sh) (ls:List (Nat×LSh)) (ot:Tm) (a:HT (Sh.hss ar++hsL ls)):Option ot.T:=
 DIe E G C n rs c h ar ls ot a (.yl y ((inA ar ls (ab _ a)).take nv)::(inA ar ls (ab _ a)).drop nv) [ylab]
theorem J9 {E:Env} {G:GTab} {C:CT E} (h0:E.on none none=E) (hm:E.P.follows .mixedOrders=true) (hG:E.G=gtPV G) (hE:GOK E) {f:FuncId} {fn:Func} {c:Code} (hf:E.P.funcs[f]?=some fn) (hb:fn.body=some c)
  {y nv:Nat} {h:Hint} {ar:List Sh} {ls:List (Nat×LSh)} {ot:Tm} (hk:Sh.kOKs ar=true/\(ls.all fun p=>p.2.kOK)=true/\qQ ot=true/\decide (ar.length+1<=fn.ntmps+nv)=true/\(nv<=ar.length/\(SentA.yt y).ts.length=nv))
  {a:HT (Sh.hss ar++hsL ls)} {v:ot.T} (hcl:tQ (ot.app v (inS ar ls (ab _ a)))=true) (hres:(resV (ot.app v (inS ar ls (ab _ a)))).pv = .tup []) (hv:DR E G C y nv fn.ntmps fn.results.toList c h ar ls ot a=some v)
  {f':HT (Sh.hss ar++hsL ls)->Option ot.T} (tmps:Array Value) (cvs cs:List Value) (e1:tmps.size=(SentA.yt y).n) (e2:cvs.length=(SentA.yt y).ts.length) (e3:cvs.length+cs.length=ar.length)
  (e4:∀(i t:Nat) (v:Value),(SentA.yt y).ts[i]?=some t->cvs[i]?=some v->tmps[t]?=some v) :
  qX E ⟨f,ar,ls,ot,f'⟩ a v (rA E.P f tmps (SentA.yt y).ps (SentA.yt y).assign (SentA.yt y).body cvs cs):=by
 obtain ⟨hk1,hk2,hk3,hk4,hk5,hk6⟩:=hk
 simp only [decide_eq_true_eq] at hk4
 have hlen:(inA ar ls (ab _ a)).length=ar.length:=by unfold inA;rw [n8]
 have hoks:DV.oks (inA ar ls (ab _ a)):=lH _ _ _ hk1
 obtain ⟨c1,c2,c3⟩:=rY hcl
 have hoT:DV.oks ((inA ar ls (ab _ a)).take nv):=bS.2 fun x hx=>bS.1 hoks x (List.mem_of_mem_take hx)
 have hoD:DV.oks ((inA ar ls (ab _ a)).drop nv):=bS.2 fun x hx=>bS.1 hoks x (List.mem_of_mem_drop hx)
 have hC:=Id h0 hm hG hE hf hb hk2 hk3 (ent:=.yl y ((inA ar ls (ab _ a)).take nv)::(inA ar ls (ab _ a)).drop nv) ⟨hoT,hoD⟩ (by simp [hlen];omega) hv
 unfold qX
 show cL E _ (DV.pvs (inA ar ls (ab _ a))) (dlb (inL ar ls (ab _ a))) fun x L=>x=(resV (ot.app v (inS ar ls (ab _ a)))).pv/\L=dlb (ot.app v (inS ar ls (ab _ a))).L
 rw [hres,show DV.pvs (inA ar ls (ab _ a))=DV.pvs ((inA ar ls (ab _ a)).take nv)++DV.pvs ((inA ar ls (ab _ a)).drop nv) from by rw [<-bO,List.take_append_drop]]
 exact Fv hC c2 c3 e1 (by rw [aB];simp [hlen];omega) (by rw [aB];simp [hlen];omega) e4
end Go.SH
set_option maxRecDepth 100000
namespace Go.SH
open Go.Proofs
def cAsg:Code->Code
 | .rangeFunc _ _ a _=>a
 | c=>c
def cBdy:Code->Code
 | .rangeFunc _ _ _ b=>b
 | c=>c
def ytab:Nat->YK
 | 0=>⟨Tryz.f19.ntmps,[14],cAsg (cIn (cSnd (cFst (cSnd (cSnd (cSnd (cSnd (bw Tryz.f19)))))))),cBdy (cIn (cSnd (cFst (cSnd (cSnd (cSnd (cSnd (bw Tryz.f19)))))))),[2,5,6]⟩
 | _=>⟨0,[],.skip,.skip,[]⟩
end Go.SH
namespace Go.Proofs
open Go.Shelf
def Tryz.laysM171_ren:Go.Shelf.Ren:=⟨fun | 171=>42 | 243=>89 | 246=>144 | 283=>190 | 284=>191 | 285=>192 | 286=>193 | 129=>213 | 317=>212 | 318=>214 | 319=>215 | 320=>216 | 337=>230 | 338=>227 | n=>n,fun | 3=>3 | 9=>9 | 2=>2 | 4=>4 | 171=>200 | 0=>0 | 53=>35 | 37=>42 | 5=>5 | 173=>203 | 212=>219 | 51=>220 | 20=>20 | 213=>221 | 46=>141 | 232=>231 | 233=>230 | n=>n,fun | 17=>1 | 18=>3 | 19=>2 | n=>n⟩
theorem Tryz.laysM171:Go.Proofs.LaysM.n171 Tryz.prog Tryz.laysM171_ren:={
 mixed:=by kernel_rfl
 f129:=Tryz.func213.trans (congrArg some (by kernel_rfl))
 f171:=Tryz.func42.trans (congrArg some (by kernel_rfl))
 f243:=Tryz.func89.trans (congrArg some (by kernel_rfl))
 f246:=Tryz.func144.trans (congrArg some (by kernel_rfl))
 f283:=Tryz.func190.trans (congrArg some (by kernel_rfl))
 f284:=Tryz.func191.trans (congrArg some (by kernel_rfl))
 f285:=Tryz.func192.trans (congrArg some (by kernel_rfl))
 f286:=Tryz.func193.trans (congrArg some (by kernel_rfl))
 f317:=Tryz.func212.trans (congrArg some (by kernel_rfl))
 f318:=Tryz.func214.trans (congrArg some (by kernel_rfl))
 f319:=Tryz.func215.trans (congrArg some (by kernel_rfl))
 f320:=Tryz.func216.trans (congrArg some (by kernel_rfl))
 f337:=Tryz.func230.trans (congrArg some (by kernel_rfl))
 f338:=Tryz.func227.trans (congrArg some (by kernel_rfl))
 t0:=Tryz.underlying0
 a0:=Tryz.isAgg0
 z0:=Tryz.sizeOf0
 v0:=Tryz.zeroValue0
 t2:=Tryz.underlying2
 a2:=Tryz.isAgg2
 z2:=Tryz.sizeOf2
 v2:=Tryz.zeroValue2
 t3:=Tryz.underlying3
 a3:=Tryz.isAgg3
 z3:=Tryz.sizeOf3
 v3:=Tryz.zeroValue3
 t4:=Tryz.underlying4
 a4:=Tryz.isAgg4
 z4:=Tryz.sizeOf4
 v4:=Tryz.zeroValue4
 t5:=Tryz.underlying5
 a5:=Tryz.isAgg5
 z5:=Tryz.sizeOf5
 v5:=Tryz.zeroValue5
 t9:=Tryz.underlying9
 a9:=Tryz.isAgg9
 z9:=Tryz.sizeOf9
 v9:=Tryz.zeroValue9
 t20:=Tryz.underlying20
 a20:=Tryz.isAgg20
 z20:=Tryz.sizeOf20
 v20:=Tryz.zeroValue20
 t37:=Tryz.underlying42
 a37:=Tryz.isAgg42
 z37:=Tryz.sizeOf42
 v37:=Tryz.zeroValue42
 t46:=Tryz.underlying141
 a46:=Tryz.isAgg141
 z46:=Tryz.sizeOf141
 v46:=Tryz.zeroValue141
 t51:=Tryz.underlying220
 a51:=Tryz.isAgg220
 z51:=Tryz.sizeOf220
 v51:=Tryz.zeroValue220
 t53:=Tryz.underlying35
 a53:=Tryz.isAgg35
 z53:=Tryz.sizeOf35
 v53:=Tryz.zeroValue35
 t171:=Tryz.underlying200
 a171:=Tryz.isAgg200
 z171:=Tryz.sizeOf200
 v171:=Tryz.zeroValue200
 t173:=Tryz.underlying203
 a173:=Tryz.isAgg203
 z173:=Tryz.sizeOf203
 v173:=Tryz.zeroValue203
 t212:=Tryz.underlying219
 a212:=Tryz.isAgg219
 z212:=Tryz.sizeOf219
 v212:=Tryz.zeroValue219
 t213:=Tryz.underlying221
 a213:=Tryz.isAgg221
 z213:=Tryz.sizeOf221
 t232:=Tryz.underlying231
 a232:=Tryz.isAgg231
 z232:=Tryz.sizeOf231
 v232:=Tryz.zeroValue231
 t233:=Tryz.underlying230
 a233:=Tryz.isAgg230
 z233:=Tryz.sizeOf230
 v233:=Tryz.zeroValue230
 g17:=by kernel_rfl
 g18:=by kernel_rfl
 g19:=by kernel_rfl
 i0:=by kernel_rfl
 i2:=by kernel_rfl
 i3:=by kernel_rfl
 i4:=by kernel_rfl
 i5:=by kernel_rfl
 i9:=by kernel_rfl
 i20:=by kernel_rfl
 i37:=by kernel_rfl
 i46:=by kernel_rfl
 i51:=by kernel_rfl
 i53:=by kernel_rfl
 i171:=by kernel_rfl
 i173:=by kernel_rfl
 i212:=by kernel_rfl
 i232:=by kernel_rfl
 i233:=by kernel_rfl
 m17:=by kernel_rfl
 m18:=by kernel_rfl
 m19:=by kernel_rfl }
open Go.RowKit Go.Sort Go.Lib in
theorem Tryz.strconv_Itoa (n:Int) (h0:-9223372036854775808<=n) (h1:n<=9223372036854775807) (w:World) (htab:Lib.TabIs Tryz.prog w "internal/strconv.uint64pow10" .u64 Lib.pow10Tab) :
  Calls Tryz.prog 42 #[.int .i64 n] w fun e w'=>e = .returned (.string ⟨(Lib.itoa n).toArray⟩)/\∃k os,w'=grow (w.drewN k) os:=Any.strconv_Itoa Tryz.laysM171 n h0 h1 w htab
end Go.Proofs
namespace Go.SH
variable [SentA]
theorem Pure.of_calls {E:Env} {f:FuncId} {args:List PV} {v:PV} (h:∀(A:Nat->Prop) w σ (cargs:List Value),cargs.length=args.length->(∀(i:Nat) (x:PV) (u:Value),args[i]?=some x->cargs[i]?=some u->VR w σ (avo A σ []) x u) ->
  (∀g cells,lget E.G g=some cells->VR w σ (avo A σ []) (.rop cells 0) (.pointer (some ⟨g,0,none⟩))) ->
  Calls E.P f cargs.toArray w fun e w'=>∃c,e = .returned c/\VR w' sig0 (avo A sig0 []) v c/\w.heap.size<=w'.heap.size/\(∀β,β<w.heap.size->w'.heap[β]?=w.heap[β]?)/\(w'.os=w.os/\w'.output=w.output/\w'.tape=w.tape)):Pure E f args v:=by
 intro A w σ cargs hl hv hbr hg
 refine (h A w σ cargs hl hv hg).mono fun e w' ⟨c,he,hvr,hs,hh,ho⟩=>⟨v,c,[],sig0,he,⟨rfl,rfl⟩,hvr,BR0 fun β hA=>Nat.lt_of_lt_of_le (hbr.lo β hA).1 hs,⟨hs,fun l y hk=>absurd rfl hk,fun β hb hn=>⟨avz,hh β hb⟩,ho,fun hk=>absurd rfl hk⟩⟩
theorem VR.int_inv {w:World} {σ:Sig} {av:Nat->Prop} {k:IntKind} {n:Int} {v:Value} (h:VR w σ av (.int k n) v):v = .int k n:=by cases h;rfl
theorem Io {w:World} {σ:Sig} {av:Nat->Prop} {g:Nat} {cs:List Value} (h:VR w σ av (.rop [.xc g cs] 0) (.pointer (some ⟨g,0,none⟩))):∃T fr,w.heap[g]?=some (.cells cs.toArray T fr):=by
 generalize hv:Value.pointer (some ⟨g,0,none⟩)=v at h
 cases h with
 | @rop _ _ β add cs' him hl hcv=>
  simp at hl
  obtain ⟨v0,e⟩:∃v0,cs'[0]?=some v0:=⟨cs'[0],List.getElem?_eq_getElem (by omega)⟩
  have:=hcv 0 (.xc g cs) v0 rfl e
  cases this with
  | xc _ _ T fr _ _ _ hh=>exact ⟨T,fr,hh⟩
end Go.SH
set_option maxRecDepth 100000
namespace Go.SH
open Go.Proofs
def p10T:List Value:=Lib.pow10Tab.map fun z=>Value.int .u64 z
instance instSent:SentA:=⟨fun i=>⟨i,0,none⟩,fun i j h=>by injection h,[(1,[.xc 1 p10T])],ytab⟩
def GTe:GTab:=[(0,⟨.tp (.ti .i32) (.tp (.ti .i32) (.ti .i32)),bc⟩),(2,⟨.tu,kr⟩)]
def En:Env:=⟨Tryz.prog,gtPV GTe,none,none⟩
theorem En_G (g:Nat) (cells:List PV) (h:lget En.G g=some cells):cells=fl (el (.tp (.ti .i32) (.tp (.ti .i32) (.ti .i32)))) bc\/cells=fl (el .tu) kr\/(g=1/\cells=[.xc 1 p10T]):=by
 simp only [En,gtPV,GTe,SentA.extra,List.map_cons,List.map_nil,List.cons_append,List.nil_append,lget] at h
 split at h;· simp at h;exact .inl h.symm
 split at h;· simp at h;exact .inr (.inl h.symm)
 split at h;· rename_i e;simp at h;exact .inr (.inr ⟨e.symm,h.symm⟩)
 simp at h
theorem eu:GOK En:=by
 intro g cells h
 rcases En_G g cells h with rfl | rfl | ⟨_,rfl⟩
 ·exact hY rfl _
 ·exact hY rfl _
 ·rfl
theorem bp:En.P.follows .mixedOrders=true:=by kernel_rfl
def noC:CT En:=⟨fun _=>none,fun _=>none,fun _=>none⟩
def cl (l:List (PCon En)) (m:List (ICon En)):CT En:=⟨fun i=>l[i]?,fun i=>m[i]?,fun _=>none⟩
def cly (l:List (PCon En)) (m:List (ICon En)) (y:List (YCon En)):CT En:=⟨fun i=>l[i]?,fun i=>m[i]?,fun i=>y[i]?⟩
theorem FH {n:Int} {v:List UInt8} (h:itoa n=some v):Pure En 42 [.int .i64 n] (.str v):=by
 obtain ⟨⟨h0,h1⟩,h⟩:=cR h
 simp at h;subst h
 refine Pure.of_calls fun A w σ cargs hl hv hg=>?_
 obtain ⟨x,rfl⟩:∃x,cargs=[x]:=by match cargs,hl with | [x],_=>exact ⟨x,rfl⟩
 obtain rfl:=(hv 0 _ x rfl rfl).int_inv
 obtain ⟨T,fr,ht⟩:=Io (hg 1 _ (by rfl))
 refine (Tryz.strconv_Itoa n h0 h1 w ?_).mono ?_
 ·show w.var? Tryz.prog "internal/strconv.uint64pow10" = _
  unfold World.var?
  rw [show Tryz.prog.globalNamed "internal/strconv.uint64pow10" = some 1 from by kernel_rfl]
  simp [ht,p10T]
 ·rintro e w' ⟨rfl,k,os,rfl⟩
  refine ⟨_,rfl,.str _,?_,fun β hb=>?_,rfl,rfl,rfl⟩
  ·simp [Sort.grow,World.drewN]
  ·simp only [Sort.grow,World.drewN];rw [Array.getElem?_append_left hb]
def Ky:PCon En:=⟨42,[.h (.ti .i64)],.h .ts,fun a=>itoa a,Tryz.call42,fun a v h=>FH h⟩
end Go.SH
