/- ScreenAny: any screen, any change, as the document. -/
import Derived.Test.YtfadcigdmddndaaGreatDoorE
import Derived.Test.YtfadcigdmddndaaGreatDoorProg
import Derived.KernelRfl
import Derived.ProofKit
import Derived.LaidMore
import Derived.OpenShut
import Derived.Below
import Derived.Test.YtfadcigdmddndaaGreatDoorRows
import Derived.Stop.Joined
import Derived.Lib.LaidTab
import Derived.Lib.SmallJoins
import Derived.Test.YtfadcigdmddndaaGreatDoorTie
import Derived.Test.YtfadcigdmddndaaGreatDoorCards
import Derived.SevenTiedAt
set_option linter.unusedVariables false
set_option linter.unusedSimpArgs false
noncomputable section
namespace Go.SH
open IntKind (i64 u64 i32 u8)
theorem orB {a:Bool} {o:Option Bool} {b:Bool} (h:o=some b):(bif a then some true else o)=some (a||b):=by rw [h];cases a <;> rfl
theorem MI (g:aA) (r c:Int):ff g r c=some (jF g r c):=by
 unfold ff jF
 rw [Du]
 cases hm:gT g with
 | false=>rfl
 | true=>
  cases g with
  | nil=>simp [gT] at hm
  | cons l q=>
   simp only [Option.bind_some,cond_true,Bool.true_and]
   have e:getI (l::q) 0=some l:=rfl
   rw [e]
   show (bif (((l::q).length:Int)==r) then some ((l.length:Int)==c) else some false)=some ((((l::q).length:Int)==r)&&((l.length:Int)==c))
   cases (((l::q).length:Int)==r) <;> rfl
theorem Nj (s:Sc):∃o,ap (bm s.t) 0=some o/\(∀u,o = .inr u->dT s.sv0=true/\dT s.sv1=true):=by
 have spot:∀x:pg,(bif decide (x.1<0) then some true else bif decide (x.1>199) then some true else bif decide (x.2.1<0) then some true else bif decide (x.2.1>199) then some true else (bH x.2.2.1).bind fun x31=>bif !x31 then some true else some false:Option Bool)=some (!dT x):=by
  intro x
  refine (orB (orB (orB (orB (ab (qi _) (bt _)))))).trans ?_
  congr 1
  unfold dT
  generalize aO x.2.2.1=b
  rw [Bool.eq_iff_iff]
  cases b <;> simp <;> omega
 have e0:bm s.t 0=some (bif dT s.sv0 then .inr 1 else .inl (.inl ())):=by
  unfold bm
  refine ab (x:=true) rfl (ab (spot s.sv0) ?_)
  cases dT s.sv0 <;> rfl
 have e1:bm s.t 1=some (bif dT s.sv1 then .inr 2 else .inl (.inl ())):=by
  unfold bm
  refine ab (x:=true) rfl (ab (spot s.sv1) ?_)
  cases dT s.sv1 <;> rfl
 have e2:bm s.t 2=some (.inl (.inr ())):=rfl
 rw [aj,e0]
 cases h0:dT s.sv0 with
 | false=>exact ⟨_,rfl,fun u hu=>by cases hu⟩
 | true=>
  show ∃o,ap (bm s.t) 1=some o/\_
  rw [aj,e1]
  cases h1:dT s.sv1 with
  | false=>exact ⟨_,rfl,fun u hu=>by cases hu⟩
  | true=>
   show ∃o,ap (bm s.t) 2=some o/\_
   rw [aj,e2]
   exact ⟨_,rfl,fun _ _=>⟨rfl,rfl⟩⟩
theorem Ni (s:Sc) (h:s.title.length<=60):∃o,ap (dL s.t) 0=some o/\(∀u,o = .inr u->cF s.title=true):=by
 rw [l8 (step:=dL s.t) (n:=s.title.length) (ok:=fun i=>match s.title[i]? with | some x=>decide (1<=ae x) | none=>true) (e:=.inr ()) (b:=.inl ()) (fun i hi=>by
  unfold dL
  show ((bif decide ((i:Int)<(s.title.length:Int)) then some true else some false:Option Bool).bind fun x40=>_)=_
  rw [ao (by omega:(i:Int)<(s.title.length:Int))]
  simp only [Option.bind_some,cond_true]
  have hg:getI s.t.2.2.2.2.2.2.2.2.2.2.2.2.2 (i:Int)=some s.title[i]:=by show getI s.title (i:Int)=_;rw [aP,List.getElem?_eq_getElem hi]
  rw [hg,ag (by omega),List.getElem?_eq_getElem hi]
  simp only [Option.bind_some,kU,bt]
  have e:decide (ae s.title[i]<1) = !decide (1<=ae s.title[i]):=by rw [Bool.eq_iff_iff];simp
  rw [e]
  cases decide (1<=ae s.title[i]) <;> rfl) (by
  unfold dL
  show ((bif decide ((s.title.length:Int)<(s.title.length:Int)) then some true else some false:Option Bool).bind fun x40=>_)=_
  rw [au (by omega:¬(s.title.length:Int)<(s.title.length:Int))]
  rfl)]
 refine ⟨_,rfl,fun u hu=>?_⟩
 cases ha:(List.range s.title.length).all (fun i=>match s.title[i]? with | some x=>decide (1<=ae x) | none=>true) with
 | false=>rw [ha] at hu;cases hu
 | true=>
  simp only [List.all_eq_true,List.mem_range] at ha
  simp only [cF,Bool.and_eq_true,decide_eq_true_eq,List.all_eq_true]
  refine ⟨h,fun x hx=>?_⟩
  obtain ⟨i,hi,rfl⟩:=List.getElem_of_mem hx
  have:=ha i hi
  rw [List.getElem?_eq_getElem hi] at this
  simpa using this
theorem Nc {s:Sc} (tok:bk s.tabs):∃b,jO s.t=some b/\(b=true->rQ s.t=true):=by
 have fin:∀{o:Option Bool} {x:Bool} {f:Bool->Option Bool},o=some x->(x=true->f true=some false)->(x=false->∃b,f false=some b/\(b=true->rQ s.t=true))->∃b,o.bind f=some b/\(b=true->rQ s.t=true):=by
  intro o x f h h1 h2
  cases x with
  | true=>exact ⟨false,ab h (h1 rfl),fun h=>by cases h⟩
  | false=>obtain ⟨b,hb,hb2⟩:=h2 rfl;exact ⟨b,ab h hb,hb2⟩
 unfold jO
 refine fin (orB (orB (ab (MI _ _ _) (bt _)))) (fun _=>rfl) fun h1=>?_
 simp only [Bool.or_eq_false_iff,Bool.not_eq_false',decide_eq_false_iff_not] at h1
 obtain ⟨m1,m2,hg⟩:=h1
 have hmd:0<=s.modes/\s.modes<=255:=⟨by have:¬s.modes<0:=m1;omega,by have:¬s.modes>255:=m2;omega⟩
 have hhas:((aW s.t 128).bind fun x12=>bif x12 then some true else some false)=some (aU s.modes):=ab (kH (x:=s.t) hmd (b:=128) (by simp [dO])) (bt _)
 have hmain:∃o:Unit⊕Bool,((((aW s.t 128).bind fun x12=>bif x12 then some true else some false:Option Bool).bind fun x13=>
   bif x13 then ((ff s.t.2.2.2.1 s.t.1 s.t.2.1).bind fun x15=>bif !x15 then some true else some false:Option Bool).bind fun x16=>bif x16 then some (.inr false) else some (.inl ())
   else (bif decide ((s.t.2.2.2.1.length:Int)>0) then some true else some false:Option Bool).bind fun x17=>bif x17 then some (.inr false) else some (.inl ()):Option (Unit⊕Bool)))=some o /\
   (o = .inr false\/(o = .inl ()/\(aU s.modes==decide (0<s.main.length))=true/\(!aU s.modes||jF s.main s.rows s.cols)=true)):=by
  cases ho:aU s.modes with
  | true=>
   rw [ho] at hhas
   cases hz:jF s.main s.rows s.cols with
   | false=>exact ⟨_,ab hhas (ab (x:=true) (ab ((MI _ _ _).trans (congrArg some hz)) rfl) rfl),.inl rfl⟩
   | true=>
    refine ⟨_,ab hhas (ab (x:=false) (ab ((MI _ _ _).trans (congrArg some hz)) rfl) rfl),.inr ⟨rfl,?_,rfl⟩⟩
    obtain ⟨R,C,_,_,hs,hg'⟩:=w5.1 hz
    unfold szR at hs
    rw [ao (by rw [hg'.1];omega)];rfl
  | false=>
   rw [ho] at hhas
   by_cases hl:0<s.main.length
   ·exact ⟨_,ab hhas (ab (x:=true) (by show (bif decide ((s.main.length:Int)>0) then some true else some false:Option Bool)=_;rw [ao (by omega)];rfl) rfl),.inl rfl⟩
   ·refine ⟨_,ab hhas (ab (x:=false) (by show (bif decide ((s.main.length:Int)>0) then some true else some false:Option Bool)=_;rw [au (by omega)];rfl) rfl),.inr ⟨rfl,?_,rfl⟩⟩
    rw [au hl];rfl
 obtain ⟨o,ho1,ho2⟩:=hmain
 rcases ho2 with rfl | ⟨rfl,hm1,hm2⟩
 ·exact ⟨false,ab ho1 rfl,fun h=>by cases h⟩
 suffices hh:∃b,_=some b/\(b=true->rQ s.t=true) from by
  obtain ⟨b,hb,hb2⟩:=hh
  exact ⟨b,ab ho1 hb,hb2⟩
 have hlate:∃b,(bif s.late then bif s.col !=i64.wrap (s.cols-1) then some true else some false else some false:Option Bool)=some b/\(b=false->s.late=true->s.col=s.cols-1):=by
  have hw:i64.wrap (s.cols-1)=s.cols-1:=by
   obtain ⟨R,C,_,r2,hs,_⟩:=w5.1 hg
   have r2':s.cols=(C:Int):=r2
   unfold szR at hs
   rw [r2'];exact ag (by omega)
  rw [hw]
  cases s.late with
  | false=>exact ⟨false,rfl,fun _ h=>by cases h⟩
  | true=>exact ⟨_,bt _,fun h _=>by simpa using h⟩
 obtain ⟨bl,hl1,hl2⟩:=hlate
 refine fin (orB (orB (orB (orB (orB (orB hl1)))))) (fun _=>rfl) fun h2=>?_
 simp only [Bool.or_eq_false_iff,decide_eq_false_iff_not] at h2
 obtain ⟨q1,q2,q3,q4,q5,q6,q7⟩:=h2
 have hpt:((bH s.t.2.2.2.2.2.2.2.1).bind fun x22=>bif !x22 then some true else bif decide ((s.t.2.2.2.2.2.2.2.2.2.2.2.2.2.length:Int)>60) then some true else some false:Option Bool)=some (!aO s.pen||decide ((s.title.length:Int)>60)):=
  ab (qi _) (orB (bt _))
 have hz:∃b,(bif decide (s.t.2.2.2.2.2.2.2.2.1>=s.t.2.2.2.2.2.2.2.2.2.1) then bif decide (s.t.1>1) then some true else bif s.t.2.2.2.2.2.2.2.2.1 !=0 then some true else bif s.t.2.2.2.2.2.2.2.2.2.1 !=0 then some true else (bH s.t.2.2.2.2.2.2.2.1).bind fun x21=>bif !x21 then some true else bif decide ((s.t.2.2.2.2.2.2.2.2.2.2.2.2.2.length:Int)>60) then some true else some false
   else (bH s.t.2.2.2.2.2.2.2.1).bind fun x22=>bif !x22 then some true else bif decide ((s.t.2.2.2.2.2.2.2.2.2.2.2.2.2.length:Int)>60) then some true else some false:Option Bool)=some b /\
   (b=false->(s.bottom<=s.top->s.rows<=1/\s.top=0/\s.bottom=0)/\aO s.pen=true/\s.title.length<=60):=by
  rw [hpt]
  by_cases c1:s.top>=s.bottom
  ·refine ⟨decide (s.rows>1)||(s.top !=0||(s.bottom !=0||(!aO s.pen||decide ((s.title.length:Int)>60)))),?_,fun hb=>?_⟩
   ·show (bif decide (s.top>=s.bottom) then _ else _:Option Bool)=_
    rw [ao c1]
    exact orB (orB (orB rfl))
   simp only [Bool.or_eq_false_iff,Bool.not_eq_false',decide_eq_false_iff_not,bne_eq_false_iff_eq] at hb
   obtain ⟨z1,z2,z3,z4,z5⟩:=hb
   have z1':¬s.rows>1:=z1
   exact ⟨fun _=>⟨by omega,z2,z3⟩,z4,by omega⟩
  ·refine ⟨!aO s.pen||decide ((s.title.length:Int)>60),?_,fun hb=>?_⟩
   ·show (bif decide (s.top>=s.bottom) then _ else _:Option Bool)=_
    rw [au c1]
    rfl
   simp only [Bool.or_eq_false_iff,Bool.not_eq_false',decide_eq_false_iff_not] at hb
   exact ⟨fun h=>absurd h (by omega),hb.1,by omega⟩
 obtain ⟨bz,hz1,hz2⟩:=hz
 refine fin hz1 (fun _=>rfl) fun h3=>?_
 obtain ⟨z1,z2,z3⟩:=hz2 h3
 obtain ⟨o1,p1,p2⟩:=Nj s
 cases o1 with
 | inl u=>exact ⟨false,ab p1 rfl,fun h=>by cases h⟩
 | inr u=>
  obtain ⟨s1,s2⟩:=p2 u rfl
  obtain ⟨o2,t1,t2⟩:=Ni s z3
  cases o2 with
  | inl u=>exact ⟨false,ab p1 (ab t1 rfl),fun h=>by cases h⟩
  | inr u'=>
   refine ⟨true,ab p1 (ab t1 rfl),fun _=>?_⟩
   have ht:=t2 u' rfl
   have k1:¬s.row<0:=q1
   have k2:¬s.row>=s.rows:=q2
   have k3:¬s.col<0:=q3
   have k4:¬s.col>=s.cols:=q4
   have k5:¬s.top<0:=q5
   have k6:¬s.bottom>=s.rows:=q6
   obtain ⟨R,C,r1,r2,hs,hgk⟩:=w5.1 hg
   have r1':s.rows=(R:Int):=r1
   have r2':s.cols=(C:Int):=r2
   have htb:s.top<s.bottom\/R<=1:=by
    rcases Int.lt_or_le s.top s.bottom with h | h
    ·exact .inl h
    ·have:=z1 h;exact .inr (by omega)
   have hbot:0<=s.bottom:=by
    rcases Int.lt_or_le s.top s.bottom with h | h
    ·omega
    ·have:=z1 h;omega
   have htop:s.top<s.rows:=by
    rcases Int.lt_or_le s.top s.bottom with h | h
    ·omega
    ·have:=z1 h;unfold szR at hs;omega
   have hm:(aU s.modes=true/\gok s.main R C)\/(aU s.modes=false/\s.main=[]):=by
    cases ho:aU s.modes with
    | true=>
     rw [ho] at hm2
     obtain ⟨R',C',v1,v2,_,hg'⟩:=w5.1 (show jF s.main s.rows s.cols=true from hm2)
     have e1:R'=R:=by omega
     have e2:C'=C:=by omega
     subst e1;subst e2
     exact .inl ⟨rfl,hg'⟩
    | false=>
     rw [ho] at hm1
     have:s.main.length=0:=by
      rcases Nat.eq_zero_or_pos s.main.length with h | h
      ·exact h
      ·rw [ao h] at hm1;simp at hm1
     exact .inr ⟨rfl,List.eq_nil_of_length_eq_zero this⟩
   have hok:OkS s R C:=⟨r1',r2',hs,hgk,hm,⟨by show (0:Int)<=s.row;omega,by show s.row<(R:Int);omega⟩,⟨by show (0:Int)<=s.col;omega,by show s.col<(C:Int);omega⟩,
    fun h=>by show s.col=(C:Int)-1;have:=hl2 q7 h;omega,⟨by show (0:Int)<=s.top;omega,by show s.top<(R:Int);omega⟩,⟨hbot,by show s.bottom<(R:Int);omega⟩,htb,hmd,z2,s1,s2,ht,tok⟩
   exact hok.may
theorem MP {s:Sc} (tok:bk s.tabs):jO s.t=some (rQ s.t):=by
 cases hm:rQ s.t with
 | true=>
  obtain ⟨R,C,h⟩:=OkS.of hm tok
  exact h.refMay
 | false=>
  obtain ⟨b,hb,hb2⟩:=Nc tok
  cases b with
  | false=>exact hb
  | true=>rw [hb2 rfl] at hm;cases hm
end Go.SH
namespace Go.SH
open IntKind (i64 u64 i32 u8)
theorem Nt (a b:Bool):(bif a then some true else some b:Option Bool)=some (a||b):=by cases a <;> rfl
theorem Nn (a b:Bool):(bif a then some b else some false:Option Bool)=some (a&&b):=by cases a <;> rfl
theorem Nm (a b:Bool):(bif a then some false else some b:Option Bool)=some (!a&&b):=by cases a <;> rfl
theorem MX {a b:ScrT} [Decidable (a=b)] (h1:small a.2.2.1) (h2:small a.2.2.2.1) (h3:a.2.2.2.2.2.2.2.2.2.2.2.2.2.length<=big):AA a b=some (decide (a=b)):=by
 by_cases e:a=b
 ·subst e;rw [ML h1 h2 h3,ao rfl]
 ·rw [au e]
  unfold AA
  rw [MF h1,MF h2,Bu h3]
  simp only [Option.bind_some,Nt,Nn,Nm,Bool.and_true]
  congr 1
  rw [Bool.eq_false_iff]
  intro h
  apply e
  simp only [Bool.and_eq_true,Bool.not_eq_true',Bool.or_eq_false_iff,Bool.not_eq_false',beq_iff_eq,decide_eq_true_eq] at h
  simp only [Prod.ext_iff]
  simp only [h,and_self]
theorem Nb {a b:ScrT} [Decidable (a=b)] (h1:small a.2.2.1) (h2:small a.2.2.2.1) (h3:a.2.2.2.2.2.2.2.2.2.2.2.2.2.length<=big):dc a b=some (decide (a=b)):=by
 by_cases e:a=b
 ·subst e;rw [sN h1 h2 h3,ao rfl]
 ·rw [au e]
  unfold dc
  rw [sO h1,sO h2,B9,Bu h3]
  simp only [Option.bind_some,Nt,Nn,Nm,Bool.and_true,Bool.or_false]
  congr 1
  rw [Bool.eq_false_iff]
  intro h
  apply e
  simp only [Bool.and_eq_true,Bool.not_eq_true',Bool.or_eq_false_iff,Bool.not_eq_false',bne_eq_false_iff_eq,beq_iff_eq,decide_eq_true_eq] at h
  simp only [Prod.ext_iff]
  simp only [h,and_self]
theorem M3 {g:aA} (hb:g.length<=big):∃b,yD g=some b/\(b=false->∀l∈g,l.length<=30):=by
 unfold yD
 rw [l8 (step:=xp g) (n:=g.length) (ok:=fun i=>match g[i]? with | some x=>decide (x.length<=30) | none=>true) (e:=.inr ()) (b:=.inl ()) (fun i hi=>by
  unfold xp
  rw [ao (by omega:(i:Int)<(g.length:Int))]
  simp only [Option.bind_some,cond_true,aP,List.getElem?_eq_getElem hi,bt,wr1 hi hb]
  have e:decide ((g[i].length:Int)>30) = !decide (g[i].length<=30):=by rw [Bool.eq_iff_iff];simp;omega
  rw [e]
  cases decide (g[i].length<=30) <;> rfl) (by
  unfold xp
  rw [au (by omega:¬(g.length:Int)<(g.length:Int))]
  rfl)]
 cases ha:(List.range g.length).all (fun i=>match g[i]? with | some x=>decide (x.length<=30) | none=>true) with
 | false=>exact ⟨true,rfl,fun h=>by cases h⟩
 | true=>
  refine ⟨false,rfl,fun _ l hl=>?_⟩
  simp only [List.all_eq_true,List.mem_range] at ha
  obtain ⟨i,hi,rfl⟩:=List.getElem_of_mem hl
  have:=ha i hi
  rw [List.getElem?_eq_getElem hi] at this
  simpa using this
theorem MZ (a:Int):∃b,ww a 1=some b:=by
 unfold ww
 have hl:ap FG ()=some ():=by rw [aj];rfl
 rw [hl]
 cases decide (a>30) <;> cases decide (a<=200) <;> exact ⟨_,rfl⟩
theorem Ng {g:aA} (hb:g.length*24<=aS) (hl:∀l∈g,l.length<=30) {i:Nat} (hi:i<g.length) :
  m8 g ((i:Int),g.take i)=some (.inr (((i+1:Nat):Int),g.take (i+1))):=by
 unfold m8
 rw [ao (by omega:(i:Int)<(g.length:Int))]
 simp only [Option.bind_some,cond_true,aP,List.getElem?_eq_getElem hi,List.nil_append,nz,aJ]
 have h30:=hl _ (List.getElem_mem hi)
 unfold aS at hb ⊢
 have ht:g.take i++[g[i]]=g.take (i+1):=by rw [List.take_add_one,List.getElem?_eq_getElem hi];rfl
 rw [ht]
 have hlen:(g.take (i+1)).length=i+1:=by rw [List.length_take];omega
 have h48:g[i].length*48<=140737488355328:=by omega
 have h24:(g.take (i+1)).length*24<=140737488355328:=by rw [hlen];omega
 have hw:i64.wrap ((i:Int)+1)=((i+1:Nat):Int):=by rw [ag (by omega)];rfl
 rw [ac h48,ac h24,hw]
theorem M0 {g:aA} (hb:g.length*24<=aS) (hl:∀l∈g,l.length<=30):∀(m i:Nat),i+m=g.length->ap (m8 g) ((i:Int),g.take i)=some g
 | 0,i,h=>by
  have e:i=g.length:=by omega
  subst e
  rw [aj]
  have:m8 g ((g.length:Int),g.take g.length)=some (.inl g):=by
   unfold m8
   rw [au (by omega:¬(g.length:Int)<(g.length:Int))]
   simp only [Option.bind_some,cond_false,nz,aJ,List.take_length]
  rw [this]
 | m+1,i,h=>by
  rw [aj,Ng hb hl (by omega)]
  exact M0 hb hl m (i+1) (by omega)
theorem Ns {g:aA} (hb:g.length*24<=aS) (hl:∀l∈g,l.length<=30):Dx g=some g:=by
 unfold Dx
 refine ab (M0 hb hl g.length 0 (by omega)) ?_
 rw [nz]
theorem Nq {s:Sc} (h1:s.grid.length*24<=aS) (h2:s.main.length*24<=aS) (l1:∀l∈s.grid,l.length<=30) (l2:∀l∈s.main,l.length<=30) (ht:s.title.length<=100):ME s.t=some s.t:=by
 unfold ME
 refine ab (Ns h1 l1) (ab (Ns h2 l2) ?_)
 rw [nz,ac]
 ·rfl
 ·show ([]++s.title).length*4<=aS
  rw [List.nil_append];unfold aS;omega
def Nr:ScrT:=(0,0,[],[],0,0,false,(0,0,0),0,0,0,((0,0,(0,0,0),false,false),0,0,(0,0,0),false,false),(0,0,0,0),[])
theorem Nu {s:ScrT} {l:List ChT} (h1:s.2.2.1.length<=140737488355328) (h2:s.2.2.2.1.length<=140737488355328) (h:rQ s=false):gI s l=some Nr:=by
 unfold gI
 exact ab (x:=true) (ab (yF h1 h2) (by rw [h];rfl)) rfl
theorem No {s:Sc} {o:ScrT} {ch:ChT} (h1:s.grid.length*24<=aS) (h2:s.main.length*24<=aS) (h3:o.2.2.1.length<=big) (ht:bk s.tabs):Jv s.t o ch=some true:=by
 have m1:s.grid.length<=140737488355328:=by unfold aS at h1;omega
 have m2:s.main.length<=140737488355328:=by unfold aS at h2;omega
 have b1:s.grid.length<=big:=by unfold big;omega
 have b2:s.main.length<=big:=by unfold big;omega
 obtain ⟨x10,g1,g2⟩:=Hq (s.t.2.2.1.length:Int) 1 [ch]
 obtain ⟨x11,e1⟩:=MZ (s.t.2.2.2.1.length:Int)
 obtain ⟨x12,e2⟩:=MZ (o.2.2.1.length:Int)
 obtain ⟨x13,w1,v1⟩:=M3 (g:=s.t.2.2.1) b1
 obtain ⟨x14,w2,v2⟩:=M3 (g:=s.t.2.2.2.1) b2
 obtain ⟨x15,w3,v3⟩:=M3 (g:=o.2.2.1) h3
 unfold Jv
 refine ab (x:=false) rfl ?_
 refine ab (ab g1 (orB (ab e1 (orB (ab e2 (orB (orB (ab w1 (orB (ab w2 (orB (ab w3 (orB (orB (bt _))))))))))))))) ?_
 cases hc:(x10||(x11||(x12||(decide ((s.t.2.2.2.2.2.2.2.2.2.2.2.2.2.length:Int)>100)||(x13||(x14||(x15||(decide (s.t.1>30)||decide (s.t.2.1>30))))))))) with
 | true=>rfl
 | false=>
  simp only [Bool.or_eq_false_iff,decide_eq_false_iff_not] at hc
  obtain ⟨c10,c11,c12,ct,c13,c14,c15,_,_⟩:=hc
  have ct':¬(s.title.length:Int)>100:=ct
  have l1:=v1 c13
  have l2:=v2 c14
  have hch:chL ch:=(g2 c10).2 ch (by simp)
  have s1:small s.grid:=⟨b1,fun l hl=>by have:=l1 l hl;unfold big;omega⟩
  have s2:small s.main:=⟨b2,fun l hl=>by have:=l2 l hl;unfold big;omega⟩
  have s3:s.title.length<=big:=by unfold big;omega
  refine ab (Nq h1 h2 l1 l2 (by omega)) ?_
  haveI:=Classical.propDecidable (s.t=o)
  have hMay:oy s.t=some (rQ s.t):=yF m1 m2
  have hq:∀y:ScrT,gI s.t [ch]=some y->((oy s.t).bind fun x25=>(jO s.t).bind fun x26=>bif !(x25==x26) then some true else (AA s.t o).bind fun x27=>(dc s.t o).bind fun x28=>bif !(x27==x28) then some true else
    (AA s.t s.t).bind fun x29=>bif !x29 then some true else (dc s.t s.t).bind fun x30=>bif !x30 then some true else some false:Option Bool)=some false:=by
   intro y _
   refine ab hMay (ab (MP ht) ?_)
   have e:(!(rQ s.t==rQ s.t))=false:=by simp
   rw [e]
   refine ab (MX s1 s2 s3) (ab (Nb s1 s2 s3) ?_)
   have e':∀b:Bool,(!(b==b))=false:=by intro b;cases b <;> rfl
   rw [e']
   exact ab (ML s1 s2 s3) (ab (sN s1 s2 s3) rfl)
  cases hm:rQ s.t with
  | true=>
   obtain ⟨R,C,hok⟩:=OkS.of hm ht
   obtain ⟨R',C',k1,_⟩:=EM hok hch
   have hd:=K4 hok hch
   refine ab hd (ab (hq _ hd) (ab (x:=false) (ab ((MP ht).trans (congrArg some hm)) rfl) ?_))
   exact ab (KZ hok hch) (ab k1.refSame rfl)
  | false=>
   have hd:=Nu (s:=s.t) (l:=[ch]) m1 m2 hm
   refine ab hd (ab (hq _ hd) (ab (x:=true) (ab ((MP ht).trans (congrArg some hm)) rfl) ?_))
   exact ab (sN (s:=Nr) uB uB (Nat.zero_le _)) rfl
end Go.SH
set_option maxRecDepth 100000
namespace Go.SH
def rg (a n:Nat):List Nat:=List.range' a n
open Go.Proofs
def En:Env:=⟨Tryz.prog,gtPV GT,none,none⟩
theorem iC:GOK En:=by
 intro g cells h
 simp only [En,gtPV,GT,List.map_cons,List.map_nil,lget] at h
 split at h
 ·simp at h;subst h;exact iJ rfl _
 ·split at h
  ·simp at h;subst h;exact iJ rfl _
  ·simp at h
theorem cX:En.P.follows .mixedOrders=true:=by kernel_rfl
def noC:CT En:=⟨fun _=>none,fun _=>none⟩
def cl (l:List (PCon En)) (m:List (ICon En)):CT En:=⟨fun i=>l[i]?,fun i=>m[i]?⟩
abbrev hi:Sh:=.h (.ti .i64)
abbrev hu:Sh:=.h (.ti .u64)
abbrev hj:Sh:=.h (.ti .i32)
abbrev hb:Sh:=.h .tb
abbrev hl:Sh:=.h (.tl (.tp (.ti .i32) aa))
abbrev hg:Sh:=.h (.tl (.tl (.tp (.ti .i32) aa)))
abbrev hS:Sh:=.st (.tp (.ti .i64) (.tp (.ti .i64) bJ))
abbrev hP:Sh:=.st bg
abbrev hC:Sh:=.st dP
abbrev hc:Sh:=.st (.tp (.ti .i32) aa)
abbrev hT:Sh:=.st (.tp (.ti .u64) fa)
abbrev sp:OH:={split:=true}
abbrev cn (n:Nat):OH:={con:=n}
abbrev oi (n:Nat):OH:={io:=some n}
abbrev rs (n:Nat):Hint:=.reg [(n,sp)]
abbrev jb (t:Nat) (l:List Nat) (a b:Hint):Hint:=.join ⟨[(t,hb)],l,[],[],[]⟩ a b
abbrev js (t:Nat) (l:List Nat) (n:Nat) (b:Hint):Hint:=jb t l (rs n) b
abbrev jc (t:Nat) (l:List Nat) (n:Nat) (a b:Hint):Hint:=js t l n (.cond a b)
abbrev sl (a:Hint):Hint:=.seq .leaf a
def sf:List (Nat×Sh):=[(0,hi),(1,hi),(2,hg),(3,hg),(4,hi),(5,hi),(6,hb),(7,hi),(8,hi),(9,hi),(10,hi),(11,hi),(12,hi),(13,hi),(14,hi),(15,hi),(16,hi),(17,hi),(18,hb),(19,hb),(20,hi),(21,hi),(22,hi),(23,hi),(24,hi),(25,hb),(26,hb),(27,hu),(28,hu),(29,hu),(30,hu),(31,.h (.tl (.ti .i32)))]
abbrev sF (n:Nat):List (Nat×Nat×Sh):=sf.map fun p=>(n,p)
abbrev sP (n:Nat):List (Nat×Nat×Sh):=[(n,0,hi),(n,1,hi),(n,2,hi)]
def mkP (n:FuncId) (f:Func) (hr:∀args w,(callFunc n args).run En.P w=.ok (.enter n args) w) (hf:En.P.funcs[n]?=some f) (C:CT En) (h:Hint) (ar:List Sh) (out:Sh) (fn:HT (Sh.hss ar)->Option (HT out.hs)) (vs:List Nat:=[]) (hb:f.body=some (cK f):=by rfl) (hk:Sh.kOKs ar=true:=by rfl) (hn:ar.length<=f.ntmps:=by decide) (hd:∀a,DF En GT C f.ntmps f.results.toList (cK f) h ar out a vs=fn a:=by intro a;kernel_rfl):PCon En:=⟨n,ar,out,fn,hr,fun a v hv=>J6 rfl cX rfl iC hf hb hk hn ((hd a).trans hv)⟩
def mkI (n:FuncId) (f:Func) (hr:∀args w,(callFunc n args).run En.P w=.ok (.enter n args) w) (hf:En.P.funcs[n]?=some f) (C:CT En) (h:Hint) (ar:List Sh) (ls:List (Nat×LSh)) (ot:Tm) (fn:HT (Sh.hss ar++hsL ls)->Option ot.T) (vs:List Nat:=[]) (hb:f.body=some (cK f):=by rfl) (hk:Sh.kOKs ar=true/\(ls.all fun p=>p.2.kOK)=true/\zg ot=true/\decide (ar.length<=f.ntmps)=true:=by exact ⟨rfl,rfl,rfl,rfl⟩) (hd:∀a,DI En GT C f.ntmps f.results.toList (cK f) h ar ls ot a vs=fn a:=by intro a;kernel_rfl):ICon En:=⟨n,ar,ls,ot,fn,hr,fun a v hv=>Ii rfl cX rfl iC hf hb hk ((hd a).trans hv)⟩
abbrev u2 {a0 a1 r:Type} (f:a0->a1->r) (a:a0×a1):r:=f a.1 a.2
abbrev u3 {a0 a1 a2 r:Type} (f:a0->a1->a2->r) (a:a0×a1×a2):r:=f a.1 a.2.1 a.2.2
abbrev u4 {a0 a1 a2 a3 r:Type} (f:a0->a1->a2->a3->r) (a:a0×a1×a2×a3):r:=f a.1 a.2.1 a.2.2.1 a.2.2.2
abbrev u5 {a0 a1 a2 a3 a4 r:Type} (f:a0->a1->a2->a3->a4->r) (a:a0×a1×a2×a3×a4):r:=f a.1 a.2.1 a.2.2.1 a.2.2.2.1 a.2.2.2.2
abbrev u33 {a0 a1 a2 a3 a4 a5 a6 a7 a8 a9 a10 a11 a12 a13 a14 a15 a16 a17 a18 a19 a20 a21 a22 a23 a24 a25 a26 a27 a28 a29 a30 a31 a32 r:Type} (f:a0->a1->a2->a3->a4->a5->a6->a7->a8->a9->a10->a11->a12->a13->a14->a15->a16->a17->a18->a19->a20->a21->a22->a23->a24->a25->a26->a27->a28->a29->a30->a31->a32->r) (a:a0×a1×a2×a3×a4×a5×a6×a7×a8×a9×a10×a11×a12×a13×a14×a15×a16×a17×a18×a19×a20×a21×a22×a23×a24×a25×a26×a27×a28×a29×a30×a31×a32):r:=f a.1 a.2.1 a.2.2.1 a.2.2.2.1 a.2.2.2.2.1 a.2.2.2.2.2.1 a.2.2.2.2.2.2.1 a.2.2.2.2.2.2.2.1 a.2.2.2.2.2.2.2.2.1 a.2.2.2.2.2.2.2.2.2.1 a.2.2.2.2.2.2.2.2.2.2.1 a.2.2.2.2.2.2.2.2.2.2.2.1 a.2.2.2.2.2.2.2.2.2.2.2.2.1 a.2.2.2.2.2.2.2.2.2.2.2.2.2.1 a.2.2.2.2.2.2.2.2.2.2.2.2.2.2.1 a.2.2.2.2.2.2.2.2.2.2.2.2.2.2.2.1 a.2.2.2.2.2.2.2.2.2.2.2.2.2.2.2.2.1 a.2.2.2.2.2.2.2.2.2.2.2.2.2.2.2.2.2.1 a.2.2.2.2.2.2.2.2.2.2.2.2.2.2.2.2.2.2.1 a.2.2.2.2.2.2.2.2.2.2.2.2.2.2.2.2.2.2.2.1 a.2.2.2.2.2.2.2.2.2.2.2.2.2.2.2.2.2.2.2.2.1 a.2.2.2.2.2.2.2.2.2.2.2.2.2.2.2.2.2.2.2.2.2.1 a.2.2.2.2.2.2.2.2.2.2.2.2.2.2.2.2.2.2.2.2.2.2.1 a.2.2.2.2.2.2.2.2.2.2.2.2.2.2.2.2.2.2.2.2.2.2.2.1 a.2.2.2.2.2.2.2.2.2.2.2.2.2.2.2.2.2.2.2.2.2.2.2.2.1 a.2.2.2.2.2.2.2.2.2.2.2.2.2.2.2.2.2.2.2.2.2.2.2.2.2.1 a.2.2.2.2.2.2.2.2.2.2.2.2.2.2.2.2.2.2.2.2.2.2.2.2.2.2.1 a.2.2.2.2.2.2.2.2.2.2.2.2.2.2.2.2.2.2.2.2.2.2.2.2.2.2.2.1 a.2.2.2.2.2.2.2.2.2.2.2.2.2.2.2.2.2.2.2.2.2.2.2.2.2.2.2.2.1 a.2.2.2.2.2.2.2.2.2.2.2.2.2.2.2.2.2.2.2.2.2.2.2.2.2.2.2.2.2.1 a.2.2.2.2.2.2.2.2.2.2.2.2.2.2.2.2.2.2.2.2.2.2.2.2.2.2.2.2.2.2.1 a.2.2.2.2.2.2.2.2.2.2.2.2.2.2.2.2.2.2.2.2.2.2.2.2.2.2.2.2.2.2.2.1 a.2.2.2.2.2.2.2.2.2.2.2.2.2.2.2.2.2.2.2.2.2.2.2.2.2.2.2.2.2.2.2.2
def jx:=mkP 51 Tryz.f51 Tryz.call51 Tryz.func51 noC (sl (.seq (rs 2) .leaf)) [hi] hb dC
def Ch:=mkP 90 Tryz.f90 Tryz.call90 Tryz.func90 noC (sl (.seq (rs 2) .leaf)) [hi,hi] hb (u2 lO)
def ev:=mkP 45 Tryz.f45 Tryz.call45 Tryz.func45 (cl [Ch] []) (sl (sl (.seq (.reg [(3,cn 0),(4,sp),(8,cn 0),(10,sp),(14,cn 0)]) .leaf))) [hP] hb fD
def lH:=mkP 98 Tryz.f98 Tryz.call98 Tryz.func98 noC .leaf [hP] hc hH
def Bi:=mkP 146 Tryz.f146 Tryz.call146 Tryz.func146 noC .leaf [hu,hu] (.tup [hu,hu]) (u2 yq)
def si:=mkP 132 Tryz.f132 Tryz.call132 Tryz.func132 (cl [Bi] []) (sl (sl (.seq (.reg [(2,cn 0)]) .leaf))) [hu,hu] (.tup [hu,hu]) (u2 pX)
def qI:=mkP 97 Tryz.f97 Tryz.call97 Tryz.func97 (cl [si] []) (sl (.seq (js 10 [9] 1 .leaf) (.seq (.reg [(5,cn 0)]) (.seq (jb 26 (rg 21 5) (.reg [(2,sp),(5,sp)]) .leaf) (sl (sl (.seq (.blk (.loop ⟨[(8,hi)],(rg 34 13),[(0,.ls (.tp (.ti .i32) aa))],[],[]⟩ [(.exit 0,⟨[],([8]++rg 34 13),[(0,.ls (.tp (.ti .i32) aa))],[],[]⟩)] (.seq (js 37 [34,35,36] 3 .leaf) .leaf))) .leaf))))))) [hl,hi] hl (u2 gQ)
def iq:=mkP 52 Tryz.f52 Tryz.call52 Tryz.func52 (cl [ev,lH,qI] []) (sl (.seq (jb 15 (rg 5 10) (.reg [(2,sp),(6,sp),(8,cn 0),(10,sp)]) .leaf) (.seq (.reg [(1,cn 1),(4,{fz:=[(18,.tp (.ti .i32) aa)],con:=2})]) .leaf))) [hi,hP] hl (u2 fP)
def u7:=mkI 20 Tryz.f20 Tryz.call20 Tryz.func20 (cl [jx,ev,iq] []) (sl (.seq (jb 21 (rg 9 12) (.reg [(1,cn 0),(3,sp),(5,cn 0),(8,sp),(10,cn 1),(12,sp)]) .leaf) (sl (.seq (sl (.blk (.loop ⟨[(26,hi)],([8]++rg 27 9),[(1,.ls (.tl (.tp (.ti .i32) aa)))],[],[]⟩ [(.exit 0,⟨[],([8]++rg 26 10),[(1,.ls (.tl (.tp (.ti .i32) aa)))],[],[]⟩)] (js 27 [] 0 (sl (.seq (.blk (sl (.reg [(4,cn 2)]))) .leaf)))))) .leaf)))) [hi,hi,hP] [] ⟨[(0,.rww 0 1)],[],[(0,.ls (.tl (.tp (.ti .i32) aa)))],[],[]⟩ (u3 eO)
def vv:=mkP 111 Tryz.f111 Tryz.call111 Tryz.func111 noC (sl (.seq (rs 2) .leaf)) [hi] hb nh
def wT:=mkP 60 Tryz.f60 Tryz.call60 Tryz.func60 (cl [vv] []) (sl (.join ⟨[],(rg 5 11),[],[(0,0,hu),(0,1,hu),(0,2,hu),(0,3,hu)],[]⟩ (jb 6 [5] (.reg [(1,{split:=true,con:=0})]) (.cond (.reg [(2,{sel:=true}),(8,{sel:=true})]) .leaf)) .leaf)) [hT,hi] hT (u2 gx)
def sD:=mkP 53 Tryz.f53 Tryz.call53 Tryz.func53 (cl [wT] []) (sl (.seq (sl (.blk (.loop ⟨[(7,hi)],(rg 8 12),[],[(0,0,hu),(0,1,hu),(0,2,hu),(0,3,hu)],[]⟩ [(.exit 0,⟨[],(rg 7 13),[],[(0,0,hu),(0,1,hu),(0,2,hu),(0,3,hu)],[]⟩)] (.seq (js 11 [8,9,10] 3 .leaf) (.join ⟨[],(rg 14 6),[],[(0,0,hu),(0,1,hu),(0,2,hu),(0,3,hu)],[]⟩ (.blk (jc 16 [14,15] 2 (.reg [(2,cn 0)]) .leaf)) .leaf))))) .leaf)) [hT,hi,hi] hT (u3 cx)
def sE:=mkP 21 Tryz.f21 Tryz.call21 Tryz.func21 (cl [sD] []) (sl (.seq (.reg [(2,cn 0)]) .leaf)) [hi] hT gh
def sL:=mkP 7 Tryz.f7 Tryz.call7 Tryz.func7 (cl [sE] [u7]) (sl (.seq (.reg [(3,oi 0)]) (.seq (js 13 [11,12] 2 .leaf) (.seq (.reg [(6,cn 0)]) .leaf)))) [hi,hi] (.tup [hS,hi]) (u2 gX)
def wg:=mkI 110 Tryz.f110 Tryz.call110 Tryz.func110 noC .leaf [hi,.ptr 0 0] [(0,.cs [hj])] ⟨[(0,hb)],[],[],[],[]⟩ (u2 nc)
def sG:=mkI 109 Tryz.f109 Tryz.call109 Tryz.func109 (cl [] [wg]) (sl (sl (.seq (.blk (.loop ⟨[(5,hi),(6,hi)],([7]++rg 9 16),[],[],[]⟩ [(.exit 0,⟨[(5,hi)],([6,7]++rg 9 16),[],[],[]⟩)] (.seq (js 11 [9,10] 2 .leaf) (.blk (sl (jb 21 [18,19,20] (.reg [(2,oi 0),(3,sp)]) .leaf)))))) .leaf))) [hi,.fn 110 [.ptr 0 0]] [(0,.cs [hj])] ⟨[(0,hi)],[],[],[],[]⟩ (u2 lh)
def ky:=mkP 59 Tryz.f59 Tryz.call59 Tryz.func59 (cl [] [sG]) (sl (.seq (jb 25 (rg 4 21) (.reg [(2,sp),(5,sp),(10,sp),(13,sp),(18,sp),(21,sp)]) .leaf) (.seq (.reg [(1,oi 0)]) (.seq (jb 37 (rg 28 9) (.reg [(2,sp),(9,sp)]) .leaf) .leaf)))) [hj] hi j5
def yK:=mkP 152 Tryz.f152 Tryz.call152 Tryz.func152 (cl [ky] []) (sl (.seq (js 5 [3,4] 2 .leaf) (.seq (.reg [(2,cn 0),(4,sp),(8,sp),(11,cn 0)]) .leaf))) [.st (.tp (.ti .i32) (.ti .i32))] hb mB
def DK:=mkP 144 Tryz.f144 Tryz.call144 Tryz.func144 (cl [ev,ky,yK] []) (sl (.seq (sl (.blk (jb 5 [6,7] (jc 5 [6] 1 .leaf (rs 1)) (.cond (.seq (.reg [(2,cn 0),(3,sp),(6,cn 1),(12,sp),(15,cn 2)]) .leaf) (jc 25 [26] 1 (.seq (.reg [(2,cn 0),(3,sp)]) .leaf) .leaf))))) .leaf)) [hc] hb tJ
def l9:=mkP 130 Tryz.f130 Tryz.call130 Tryz.func130 (cl [DK] []) (sl (.seq (js 8 [6,7] 2 .leaf) (.seq (sl (.blk (.loop ⟨[(11,hi)],([3,4,5]++rg 12 52),[],[],[]⟩ [(.ret,⟨[(2,.k (.bool false))],([3,4,5]++rg 11 53),[],[],[]⟩),(.exit 0,⟨[],([3,4,5]++rg 11 53),[],[],[]⟩)] (js 12 [] 0 (sl (.seq (.blk (sl (js 5 (rg 16 11) 2 (jb 62 (rg 27 35) (.reg [(1,cn 0),(3,sp),(10,sp),(12,sp),(24,sp),(28,sp),(35,sp)]) .leaf)))) .leaf)))))) .leaf))) [hl] hb kX
def u0:=mkI 129 Tryz.f129 Tryz.call129 Tryz.func129 (cl [l9] []) (sl (.seq (.reg [(7,sp),(9,cn 0)]) .leaf)) [hl,.ptr 0 0] [(0,.cs [hg])] ⟨[(0,hb)],[],[],[],[]⟩ (u2 jY)
def ol:=mkI 143 Tryz.f143 Tryz.call143 Tryz.func143 (cl [] [u0]) (sl (.seq (sl (.blk (.loop ⟨[(8,hi)],([5]++rg 9 8++[18]),[],[],[]⟩ [(.ret,⟨[(4,hi)],([5]++rg 8 11),[],[],[]⟩),(.exit 0,⟨[],([5]++rg 8 9++[18]),[],[],[]⟩)] (js 9 [] 0 (sl (.seq (.blk (sl (jb 16 (rg 11 5) (.reg [(5,{split:=true,io:=some 0})]) .leaf))) .leaf)))))) .leaf)) [hg,.fn 129 [.ptr 0 0]] [(0,.cs [hg])] ⟨[(0,hi)],[],[],[],[]⟩ (u2 gV)
def mm:=mkI 128 Tryz.f128 Tryz.call128 Tryz.func128 (cl [] [ol]) (sl (.seq (.reg [(2,oi 0)]) .leaf)) [hg,.fn 129 [.ptr 0 0]] [(0,.cs [hg])] ⟨[(0,hb)],[],[],[],[]⟩ (u2 dQ)
def mf:=mkP 89 Tryz.f89 Tryz.call89 Tryz.func89 (cl [jx] [mm]) (sl (.seq (jb 14 (rg 3 11) (.reg [(2,cn 0),(4,sp),(9,cn 0),(11,sp)]) .leaf) (.seq (.reg [(2,oi 0)]) .leaf))) [hg] hb k8
def w8:=mkP 43 Tryz.f43 Tryz.call43 Tryz.func43 (cl [mf] []) (sl (.seq (.reg [(1,cn 0),(2,sp),(9,sp)]) .leaf)) [hg,hS] hb (u2 jK)
def rA:=mkI 44 Tryz.f44 Tryz.call44 Tryz.func44 noC (sl (.seq (rs 2) .leaf)) [hi,.ptr 0 0] [(0,.cs [hi,hi,hg,hg,hi,hi,hb,hi,hi,hi,hi,hi,hi,hi,hi,hi,hi,hi,hb,hb,hi,hi,hi,hi,hi,hb,hb,hu,hu,hu,hu,.h (.tl (.ti .i32))])] ⟨[(0,hb)],[],[],[],[]⟩ (fun a=>eu a.1 a.2.1)
def My:=mkP 91 Tryz.f91 Tryz.call91 Tryz.func91 noC (sl (.seq (rs 2) .leaf)) [hi] hb iY
def yC:=mkP 46 Tryz.f46 Tryz.call46 Tryz.func46 (cl [My,ev] []) (sl (sl (.seq (.reg [(3,cn 0),(4,sp),(8,cn 0),(10,sp),(13,cn 1)]) .leaf))) [.st Fj] hb kT
def sK:=mkP 93 Tryz.f93 Tryz.call93 Tryz.func93 (cl [ky] []) (sl (.seq (.reg [(1,cn 0)]) .leaf)) [hj] hb li
def om:=mkP 131 Tryz.f131 Tryz.call131 Tryz.func131 (cl [sK] []) (sl (.seq (sl (.blk (.loop ⟨[(8,hi)],([5]++rg 9 8++[18]),[],[],[]⟩ [(.ret,⟨[(4,hi)],([5]++rg 8 11),[],[],[]⟩),(.exit 0,⟨[],([5]++rg 8 9++[18]),[],[],[]⟩)] (js 9 [] 0 (sl (.seq (.blk (sl (jb 16 (rg 11 5) (.reg [(5,{split:=true,con:=0})]) .leaf))) .leaf)))))) .leaf)) [.h (.tl (.ti .i32)),.fn 93 []] hi gW
def mn:=mkP 92 Tryz.f92 Tryz.call92 Tryz.func92 (cl [om] []) (sl (.seq (.reg [(2,cn 0)]) .leaf)) [.h (.tl (.ti .i32)),.fn 93 []] hb fS
def Mx:=mkP 47 Tryz.f47 Tryz.call47 Tryz.func47 (cl [mn] []) (sl (.seq (.reg [(3,sp),(5,cn 0)]) .leaf)) [.h (.tl (.ti .i32))] hb kG
def Ao:=mkP 16 Tryz.f16 Tryz.call16 Tryz.func16 (cl [w8,ev,yC,Mx] [rA]) (sl (sl (.seq (jb 31 (rg 9 22) (.reg [(3,cn 0),(5,sp),(13,sp),(15,sp),(19,cn 0),(22,sp)]) .leaf) (sl (.seq (jb 75 (rg 33 42) (.reg [(3,oi 0),(5,sp),(9,oi 0),(12,sp),(16,oi 0),(19,sp),(24,sp),(31,sp),(34,sp),(42,sp)]) .leaf) (.seq (jb 95 (rg 76 19) (.reg [(5,sp),(10,sp),(15,sp),(19,sp)]) .leaf) (.seq (.reg [(2,cn 1),(3,sp),(7,cn 2),(9,sp),(13,cn 2),(15,sp),(18,cn 3)]) .leaf))))))) [hS] hb oy
theorem qM (a:HT (Sh.hss [.h (.tl (.tp (.ti .i32) aa))])):DFF En GT noC Tryz.f56.ntmps Tryz.f56.results.toList (cK Tryz.f56) (.seq .leaf (.seq (.seq (.reg [(1,{nq:=true})]) .leaf) .leaf)) [.h (.tl (.tp (.ti .i32) aa))] 1 (.tp (.ti .i32) aa) a=kR a:=by kernel_rfl
def lW:PCon En:=⟨56,[.h (.tl (.tp (.ti .i32) aa))],.h (.tf 1 (.tp (.ti .i32) aa)),fun a=>fU a,Tryz.call56,fun a v h=>kC rfl cX rfl iC Tryz.func56 rfl rfl (by decide) ((qM a).trans (py a h))⟩
def qO:=mkI 26 Tryz.f26 Tryz.call26 Tryz.func26 (cl [lW] []) (sl (sl (.seq (sl (.blk (.loop ⟨[(3,.rww 0 1),(8,hi)],([5]++rg 9 9),[(0,.ls (.tf 1 (.tp (.ti .i32) aa)))],[],[]⟩ [(.exit 0,⟨[(3,.rww 0 1)],([5]++rg 8 10),[(0,.ls (.tf 1 (.tp (.ti .i32) aa)))],[],[]⟩)] (js 9 [] 0 (sl (.seq (.blk (sl (.reg [(2,cn 0),(4,{fq:=1})]))) .leaf)))))) .leaf))) [hg] [(1000,.cs []),(1001,.cs [])] ⟨[(0,.rww 0 1)],[],[(0,.ls (.tf 1 (.tp (.ti .i32) aa)))],[],[]⟩ fC
theorem qL (a:HT (Sh.hss [.h (.tl (.tp (.ti .i32) aa))])):DFF En GT noC Tryz.f56.ntmps Tryz.f56.results.toList (cK Tryz.f56) (.seq .leaf (.seq (.seq (.reg [(1,{nq:=true})]) .leaf) .leaf)) [.h (.tl (.tp (.ti .i32) aa))] 2 (.tp (.ti .i32) aa) a=kQ a:=by kernel_rfl
def rv:PCon En:=⟨56,[.h (.tl (.tp (.ti .i32) aa))],.h (.tf 2 (.tp (.ti .i32) aa)),fun a=>km a,Tryz.call56,fun a v h=>kC rfl cX rfl iC Tryz.func56 rfl rfl (by decide) ((qL a).trans (px a h))⟩
def qP:=mkI 26 Tryz.f26 Tryz.call26 Tryz.func26 (cl [rv] []) (sl (sl (.seq (sl (.blk (.loop ⟨[(3,.rww 0 1),(8,hi)],([5]++rg 9 9),[(0,.ls (.tf 2 (.tp (.ti .i32) aa)))],[],[]⟩ [(.exit 0,⟨[(3,.rww 0 1)],([5]++rg 8 10),[(0,.ls (.tf 2 (.tp (.ti .i32) aa)))],[],[]⟩)] (js 9 [] 0 (sl (.seq (.blk (sl (.reg [(2,cn 0),(4,{fq:=2})]))) .leaf)))))) .leaf))) [hg] [(1000,.cs []),(1001,.cs [])] ⟨[(0,.rww 0 1)],[],[(0,.ls (.tf 2 (.tp (.ti .i32) aa)))],[],[]⟩ jL
def iF:List Sh:=[.h (.tl (.ti .i32))]
def iE:List (Nat×LSh):=[]
def lv:Tm:=⟨[(0,.rww 0 1)],[],[(0,.ls (.ti .i32))],[],[]⟩
theorem qK (a:HT (Sh.hss iF++hsL iE)):DI En GT noC Tryz.f27.ntmps Tryz.f27.results.toList (cK Tryz.f27) (.seq .leaf (.seq (.seq (.reg [(1,{nq:=true})]) .leaf) .leaf)) iF iE lv a=kP a:=by kernel_rfl
def ru:ICon En:=⟨27,iF,iE,lv,fun a=>fT a,Tryz.call27,fun a v h=>Ii rfl cX rfl iC Tryz.func27 rfl ⟨rfl,rfl,rfl,rfl⟩ ((qK a).trans (pw h))⟩
def er:=mkP 28 Tryz.f28 Tryz.call28 Tryz.func28 noC .leaf [hi,hi,hi] hi (u3 bv)
def iH:List Sh:=[.h (.tl (.tp (.ti .i32) aa))]
def iG:List (Nat×LSh):=[]
def lw:Tm:=⟨[(0,.rww 0 7)],[],[(0,.ls (.tp (.ti .i32) aa))],[],[]⟩
theorem qN (a:HT (Sh.hss iH++hsL iG)):DI En GT noC Tryz.f56.ntmps Tryz.f56.results.toList (cK Tryz.f56) (.seq .leaf (.seq (.seq (.reg [(1,{nq:=true})]) .leaf) .leaf)) iH iG lw a=kS a:=by kernel_rfl
def cJ:ICon En:=⟨56,iH,iG,lw,fun a=>bi a,Tryz.call56,fun a v h=>Ii rfl cX rfl iC Tryz.func56 rfl ⟨rfl,rfl,rfl,rfl⟩ ((qN a).trans (pz h))⟩
theorem uW (a:HT (Sh.hss [.h (.tl (.tp (.ti .i32) aa)),.h (.ti .i64),.h (.ti .i32)])):DFF En GT (cl [l9,ky] [cJ]) Tryz.f100.ntmps Tryz.f100.results.toList (cK Tryz.f100) (.seq .leaf (.seq (.join ⟨[(12,.h .tb)],[10,11],[],[],[]⟩ (.reg [(1,{con:=0}),(2,{split:=true})]) .leaf) (.seq (.reg [(1,{io:=some 0})]) (.seq (.join ⟨[(27,.h .tb)],[15,16,17,18,19,20,21,22,23,24,25,26],[],[],[]⟩ (.reg [(2,{split:=true}),(8,{split:=true}),(10,{con:=1}),(12,{split:=true})]) .leaf) (.join ⟨[(1,.h (.ti .i64))],[29,30,31,32,33,34,35,36],[],[],[]⟩ (.join ⟨[(34,.h .tb)],[29,30,31,32,33],[],[],[]⟩ (.reg [(5,{split:=true})]) .leaf) (.seq (.seq .leaf (.blk (.loop ⟨[(42,.h (.ti .i64))],[8,9,43,44,45,46,47,55],[],[],[]⟩ [(.exit 0,⟨[],[8,9,42,43,44,45,46,47,48,49,50,51,52,53,54,55],[(0,.ls (.tp (.ti .i32) aa))],[],[]⟩)] (.join ⟨[(43,.h .tb)],[],[],[],[]⟩ (.reg [(0,{split:=true})]) (.seq .leaf (.seq (.blk (.join ⟨[(8,.h (.ti .i64)),(9,.h (.ti .i32))],[44,45],[],[],[]⟩ (.reg [(1,{sel:=true})]) (.join ⟨[(47,.h .tb)],[46],[],[],[]⟩ (.reg [(1,{split:=true})]) (.cond (.seq (.reg [(6,{sel:=true})]) .leaf) .leaf)))) .leaf)))))) .leaf)))))) [.h (.tl (.tp (.ti .i32) aa)),.h (.ti .i64),.h (.ti .i32)] 1 (.tp (.ti .i32) aa) a=iZ a.1 a.2.1 a.2.2:=by kernel_rfl
def wa:PCon En:=⟨100,[.h (.tl (.tp (.ti .i32) aa)),.h (.ti .i64),.h (.ti .i32)],.h (.tf 1 (.tp (.ti .i32) aa)),fun a=>iZ a.1 a.2.1 a.2.2,Tryz.call100,fun a v h=>kC rfl cX rfl iC Tryz.func100 rfl rfl (by decide) ((uW a).trans h)⟩
def mF:=mkI 147 Tryz.f147 Tryz.call147 Tryz.func147 (cl [lW] []) (sl (.seq (.reg [(2,{fq:=1})]) (.seq (sl (.blk (.loop ⟨[(11,hi)],([4,5]++rg 12 10),[(1002,.ls (.tf 1 (.tp (.ti .i32) aa)))],[],[]⟩ [(.exit 0,⟨[],([4,5]++rg 11 11),[(1002,.ls (.tf 1 (.tp (.ti .i32) aa)))],[],[]⟩)] (js 12 [] 0 (sl (.seq (.blk (sl (.reg [(3,cn 0)]))) .leaf)))))) .leaf))) [.rww 0 1] [(0,.ls (.tf 1 (.tp (.ti .i32) aa))),(1000,.cs []),(1001,.cs [])] ⟨[(0,.rww 1 1)],[],[(1,.ls (.tf 1 (.tp (.ti .i32) aa)))],[],[]⟩ gF
theorem pu (a:HT (Sh.hss [.h (.tl (.tp (.ti .i32) aa)),.h (.ti .i64)])):DFF En GT (cl [si] []) Tryz.f97.ntmps Tryz.f97.results.toList (cK Tryz.f97) (.seq .leaf (.seq (.join ⟨[(10,.h .tb)],[9],[],[],[]⟩ (.reg [(1,{split:=true})]) .leaf) (.seq (.reg [(5,{con:=0})]) (.seq (.join ⟨[(26,.h .tb)],[21,22,23,24,25],[],[],[]⟩ (.reg [(2,{split:=true}),(5,{split:=true})]) .leaf) (.seq .leaf (.seq .leaf (.seq (.blk (.loop ⟨[(8,.h (.ti .i64))],[34,35,36,37,38,39,40,41,42,43,44,45,46],[(0,.ls (.tp (.ti .i32) aa))],[],[]⟩ [(.exit 0,⟨[],[8,34,35,36,37,38,39,40,41,42,43,44,45,46],[(0,.ls (.tp (.ti .i32) aa))],[],[]⟩)] (.seq (.join ⟨[(37,.h .tb)],[34,35,36],[],[],[]⟩ (.reg [(3,{split:=true})]) .leaf) .leaf))) .leaf))))))) [.h (.tl (.tp (.ti .i32) aa)),.h (.ti .i64)] 1 (.tp (.ti .i32) aa) a=jE a.1 a.2:=by kernel_rfl
def qJ:PCon En:=⟨97,[.h (.tl (.tp (.ti .i32) aa)),.h (.ti .i64)],.h (.tf 1 (.tp (.ti .i32) aa)),fun a=>jE a.1 a.2,Tryz.call97,fun a v h=>kC rfl cX rfl iC Tryz.func97 rfl rfl (by decide) ((pu a).trans h)⟩
theorem tM (a:HT (Sh.hss [.h (.ti .i64),.st bg])):DFF En GT (cl [ev,lH,qJ] []) Tryz.f52.ntmps Tryz.f52.results.toList (cK Tryz.f52) (.seq .leaf (.seq (.join ⟨[(15,.h .tb)],[5,6,7,8,9,10,11,12,13,14],[],[],[]⟩ (.reg [(2,{split:=true}),(6,{split:=true}),(8,{con:=0}),(10,{split:=true})]) .leaf) (.seq (.reg [(1,{con:=1}),(4,{con:=2})]) .leaf))) [.h (.ti .i64),.st bg] 1 (.tp (.ti .i32) aa) a=hU a.1 a.2:=by kernel_rfl
def nR:PCon En:=⟨52,[.h (.ti .i64),.st bg],.h (.tf 1 (.tp (.ti .i32) aa)),fun a=>hU a.1 a.2,Tryz.call52,fun a v h=>kC rfl cX rfl iC Tryz.func52 rfl rfl (by decide) ((tM a).trans h)⟩
def tQ:=mkI 136 Tryz.f136 Tryz.call136 Tryz.func136 (cl [mf,ev,nR] [mF]) (sl (.seq (jb 21 (rg 14 7) (.reg [(1,cn 0),(3,sp),(5,cn 1),(7,sp)]) .leaf) (.seq (.reg [(1,oi 0)]) (.seq (jb 36 (rg 24 12) (.reg [(2,sp),(7,sp),(12,sp)]) .leaf) (sl (sl (.join ⟨[(12,.rwf 1003 1)],(rg 51 23),[(1003,.ls (.tf 1 (.tp (.ti .i32) aa)))],[],[]⟩ (js 52 [51] 1 .leaf) (.seq (sl (.blk (.loop ⟨[(76,hi)],([13]++rg 77 12),[(1003,.ls (.tf 1 (.tp (.ti .i32) aa)))],[],[]⟩ [(.exit 0,⟨[],([13]++rg 76 13),[(1003,.ls (.tf 1 (.tp (.ti .i32) aa)))],[],[]⟩)] (js 77 [] 0 (sl (.seq (.blk (sl (.reg [(7,cn 2)]))) .leaf)))))) .leaf)))))))) [.rww 0 1,hi,hi,hi,hP] [(0,.ls (.tf 1 (.tp (.ti .i32) aa))),(1000,.cs []),(1001,.cs [])] ⟨[(0,.rww 1 1)],[],[(1,.ls (.tf 1 (.tp (.ti .i32) aa)))],[],[]⟩ (u5 jg)
def fL:=mkI 114 Tryz.f114 Tryz.call114 Tryz.func114 (cl [] [tQ]) (.reg [(18,oi 0)]) [.ptr 0 0,hi,hi] [(0,.cs [hi,hi,.rww 1 1,.rww 2 1,hi,hi,hb,hi,hi,hi,hi,hi,hi,hi,hi,hi,hi,hi,hb,hb,hi,hi,hi,hi,hi,hb,hb,hu,hu,hu,hu,.rww 3 1]),(1,.ls (.tf 1 (.tp (.ti .i32) aa))),(2,.ls (.tf 2 (.tp (.ti .i32) aa))),(3,.ls (.ti .i32)),(1000,.cs []),(1001,.cs [])] ⟨[(0,.tup [])],[],[(4,.ls (.tf 1 (.tp (.ti .i32) aa)))],[(0,2,.rww 4 1)],[]⟩ (fun a=>bD a.1 a.2.1 a.2.2.2.2.2.2.2.1 a.2.2.2.2.2.2.2.2.1 a.2.2.2.2.2.2.2.2.2.1 a.2.2.2.2.2.2.2.2.2.2.2.1 a.2.2.2.2.2.2.2.2.2.2.2.2.2.2.2.2.2.2.2.2.2.2.2.2.2.2.2.2.2.2.2.1)
def jJ:=mkI 101 Tryz.f101 Tryz.call101 Tryz.func101 (cl [] [fL]) (.seq (jc 12 (rg 2 10) 10 (.seq (.reg [(6,oi 0)]) .leaf) .leaf) .leaf) [.ptr 0 0] [(0,.cs [hi,hi,.rww 1 1,.rww 2 1,hi,hi,hb,hi,hi,hi,hi,hi,hi,hi,hi,hi,hi,hi,hb,hb,hi,hi,hi,hi,hi,hb,hb,hu,hu,hu,hu,.rww 3 1]),(1,.ls (.tf 1 (.tp (.ti .i32) aa))),(2,.ls (.tf 2 (.tp (.ti .i32) aa))),(3,.ls (.ti .i32)),(1000,.cs []),(1001,.cs [])] ⟨[(0,.tup [])],[],[(4,.ls (.tf 1 (.tp (.ti .i32) aa)))],[(0,2,.rww 4 1),(0,4,hi)],[1]⟩ (fun a=>bA a.1 a.2.2.1 a.2.2.2.2.2.1 a.2.2.2.2.2.2.1 a.2.2.2.2.2.2.2.1 a.2.2.2.2.2.2.2.2.1 a.2.2.2.2.2.2.2.2.2.1 a.2.2.2.2.2.2.2.2.2.2.2.2.2.2.2.2.2.2.2.2.2.2.2.2.2.2.2.2.2.1 a.2.2.2.2.2.2.2.2.2.2.2.2.2.2.2.2.2.2.2.2.2.2.2.2.2.2.2.2.2.2.1 a.2.2.2.2.2.2.2.2.2.2.2.2.2.2.2.2.2.2.2.2.2.2.2.2.2.2.2.2.2.2.2)
def mC:=mkP 133 Tryz.f133 Tryz.call133 Tryz.func133 (cl [l9,ev] []) (sl (.seq (.reg [(1,cn 0),(2,sp),(4,cn 1)]) .leaf)) [hl,hP] hb (u2 im)
def fv:=mkI 134 Tryz.f134 Tryz.call134 Tryz.func134 (cl [lH] []) (jb 19 (rg 4 15) (.reg [(2,sp),(8,sp),(15,sp)]) (.cond (.reg [(11,cn 0),(17,cn 0)]) .leaf)) [.rww 0 7,hi] [(0,.ls (.tp (.ti .i32) aa))] ⟨[(0,.tup [])],[],[(0,.ls (.tp (.ti .i32) aa))],[],[]⟩ (u2 bL)
theorem rR (a:HT (Sh.hss [.h (.tl (.tp (.ti .i32) aa)),.h (.ti .i64),.h (.ti .i64),.st bg])):DFF En GT (cl [mC,iq] [cJ,fv]) Tryz.f102.ntmps Tryz.f102.results.toList (cK Tryz.f102) (.seq .leaf (.seq (.join ⟨[(13,.h .tb)],[10,11,12],[],[],[]⟩ (.reg [(2,{con:=0}),(3,{split:=true})]) .leaf) (.seq (.reg [(1,{io:=some 0})]) (.seq (.join ⟨[(27,.h .tb)],[16,17,18,19,20,21,22,23,24,25,26],[],[],[]⟩ (.reg [(2,{split:=true}),(6,{split:=true}),(11,{split:=true})]) .leaf) (.seq .leaf (.seq (.reg [(2,{io:=some 1})]) (.seq (.reg [(5,{io:=some 1})]) (.seq .leaf (.seq (.reg [(5,{con:=1})]) .leaf))))))))) [.h (.tl (.tp (.ti .i32) aa)),.h (.ti .i64),.h (.ti .i64),.st bg] 1 (.tp (.ti .i32) aa) a=de a.1 a.2.1 a.2.2.1 a.2.2.2:=by kernel_rfl
def mD:PCon En:=⟨102,[.h (.tl (.tp (.ti .i32) aa)),.h (.ti .i64),.h (.ti .i64),.st bg],.h (.tf 1 (.tp (.ti .i32) aa)),fun a=>de a.1 a.2.1 a.2.2.1 a.2.2.2,Tryz.call102,fun a v h=>kC rfl cX rfl iC Tryz.func102 rfl rfl (by decide) ((rR a).trans h)⟩
theorem MC (a:HT (Sh.hss [.h (.tl (.tp (.ti .i32) aa)),.h (.ti .i64),.h (.ti .i32),.st bg])):DFF En GT (cl [mC,ky] [cJ,fv]) Tryz.f103.ntmps Tryz.f103.results.toList (cK Tryz.f103) (.seq .leaf (.seq (.join ⟨[(14,.h .tb)],[11,12,13],[],[],[]⟩ (.reg [(2,{con:=0}),(3,{split:=true})]) .leaf) (.seq (.reg [(1,{con:=1})]) (.seq (.reg [(1,{io:=some 0})]) (.seq (.join ⟨[(32,.h .tb)],[19,20,21,22,23,24,25,26,27,28,29,30,31],[],[],[]⟩ (.reg [(2,{split:=true}),(6,{split:=true}),(13,{split:=true})]) .leaf) (.seq (.reg [(2,{io:=some 1})]) (.seq (.reg [(4,{io:=some 1})]) (.seq .leaf (.join ⟨[],[50,51,52,53,54,55,56,57],[(1,.ls (.tp (.ti .i32) aa))],[],[]⟩ (.join ⟨[(51,.h .tb)],[50],[],[],[]⟩ (.reg [(1,{split:=true})]) .leaf) .leaf))))))))) [.h (.tl (.tp (.ti .i32) aa)),.h (.ti .i64),.h (.ti .i32),.st bg] 1 (.tp (.ti .i32) aa) a=ip a.1 a.2.1 a.2.2.1 a.2.2.2:=by kernel_rfl
def xJ:PCon En:=⟨103,[.h (.tl (.tp (.ti .i32) aa)),.h (.ti .i64),.h (.ti .i32),.st bg],.h (.tf 1 (.tp (.ti .i32) aa)),fun a=>ip a.1 a.2.1 a.2.2.1 a.2.2.2,Tryz.call103,fun a v h=>kC rfl cX rfl iC Tryz.func103 rfl rfl (by decide) ((MC a).trans h)⟩
def np:=mkI 57 Tryz.f57 Tryz.call57 Tryz.func57 (cl [ky,wa,mD,xJ] [jJ]) (.seq (.reg [(1,cn 0)]) (sl (.seq (.blk (jb 22 (rg 23 11) (.reg [(2,sp),(11,sp)]) (.cond .leaf (jc 34 [35,36] 2 (sl (.join ⟨[(6,hi)],(rg 42 8),[],[],[]⟩ (js 47 (rg 42 5) 5 .leaf) (.seq (.reg [(13,cn 1)]) .leaf))) .leaf)))) (sl (.join ⟨[],(rg 72 14++[20,14]),[(4,.ls (.tf 1 (.tp (.ti .i32) aa)))],[(0,2,.rww 4 1),(0,4,hi),(0,5,hi)],[1]⟩ (jb 79 (rg 72 7) (.reg [(5,sp),(7,sp)]) (.cond (sl (.reg [(1,oi 0)])) .leaf)) (sl (.join ⟨[],(rg 90 31),[(5,.ls (.tf 1 (.tp (.ti .i32) aa)))],[(0,2,.rww 5 1),(0,4,hi),(0,5,hi)],[4]⟩ (jc 102 (rg 90 12) 12 (jc 103 [] 0 (sl (.reg [(1,oi 0)])) .leaf) .leaf) (sl (.join ⟨[(5,.h (.tf 1 (.tp (.ti .i32) aa)))],(rg 133 20),[],[],[]⟩ (jc 139 (rg 133 6) 6 (.reg [(12,cn 2)]) .leaf) (.seq (.reg [(22,cn 3)]) (sl (js 197 (rg 187 10) 10 .leaf)))))))))))) [.ptr 0 0,hj] [(0,.cs [hi,hi,.rww 1 1,.rww 2 1,hi,hi,hb,hi,hi,hi,hi,hi,hi,hi,hi,hi,hi,hi,hb,hb,hi,hi,hi,hi,hi,hb,hb,hu,hu,hu,hu,.rww 3 1]),(1,.ls (.tf 1 (.tp (.ti .i32) aa))),(2,.ls (.tf 2 (.tp (.ti .i32) aa))),(3,.ls (.ti .i32)),(1000,.cs []),(1001,.cs [])] ⟨[(0,.tup [])],[],[(4,.ls (.tf 1 (.tp (.ti .i32) aa)))],[(0,2,.rww 4 1),(0,4,hi),(0,5,hi),(0,6,hb)],[1]⟩ (fun a=>eU a.1 a.2.1 a.2.2.1 a.2.2.2.1 a.2.2.2.2.1 a.2.2.2.2.2.1 a.2.2.2.2.2.2.1 a.2.2.2.2.2.2.2.1 a.2.2.2.2.2.2.2.2.1 a.2.2.2.2.2.2.2.2.2.1 a.2.2.2.2.2.2.2.2.2.2.1 a.2.2.2.2.2.2.2.2.2.2.2.1 a.2.2.2.2.2.2.2.2.2.2.2.2.2.2.2.2.2.2.2.2.2.2.2.2.2.2.2.2.2.2.1 a.2.2.2.2.2.2.2.2.2.2.2.2.2.2.2.2.2.2.2.2.2.2.2.2.2.2.2.2.2.2.2.1 a.2.2.2.2.2.2.2.2.2.2.2.2.2.2.2.2.2.2.2.2.2.2.2.2.2.2.2.2.2.2.2.2)
def Dz:=mkP 104 Tryz.f104 Tryz.call104 Tryz.func104 (cl [ev] []) (sl (.seq (jb 5 [3,4] (.reg [(1,cn 0),(2,sp)]) .leaf) .leaf)) [hP] hP xq
def Cf:=mkP 106 Tryz.f106 Tryz.call106 Tryz.func106 noC (sl (.seq (.blk (jb 4 (rg 5 6) (.reg [(2,sp),(6,sp)]) (.cond .leaf (jb 14 (rg 15 12) (jb 14 (rg 15 6) (.reg [(2,sp),(6,sp)]) (.cond .leaf (.reg [(2,sp),(6,sp)]))) .leaf)))) .leaf)) [hi] (.tup [hi,hb]) nA
def Cg:=mkP 107 Tryz.f107 Tryz.call107 Tryz.func107 noC (sl (.joinX ⟨[(0,hi)],(rg 3 16),[],[],[]⟩ (.blk (jb 3 (rg 4 10) (.reg [(2,sp),(6,sp),(10,sp)]) (.cond .leaf (js 14 [15,16] 2 .leaf)))) .leaf)) [hi] hi kp
def xr:=mkP 135 Tryz.f135 Tryz.call135 Tryz.func135 noC (sl (.seq (sl (.blk (.loop ⟨[(7,hi)],([4]++rg 8 10),[],[],[]⟩ [(.ret,⟨[(2,.k (.bool false))],([4]++rg 7 11),[],[],[]⟩),(.exit 0,⟨[],([4]++rg 7 11),[],[],[]⟩)] (js 8 [] 0 (sl (.seq (.blk (sl (jb 16 (rg 11 5) (.reg [(2,sp),(5,sp)]) .leaf))) .leaf)))))) .leaf)) [.h (.tl (.ti .i64))] hb ee
def Ay:=mkP 108 Tryz.f108 Tryz.call108 Tryz.func108 (cl [xr] []) (sl (sl (.seq (.blk (jb 5 (rg 6 17) (.reg [(3,sp),(9,sp),(15,cn 0),(17,sp)]) (.cond .leaf (jb 27 (rg 28 15) (.reg [(3,sp),(9,sp),(13,cn 0),(15,sp)]) .leaf)))) .leaf))) [.h (.tl (.ti .i64))] (.tup [hi,hi]) oE
def sV:=mkI 105 Tryz.f105 Tryz.call105 Tryz.func105 noC (js 6 [5] 1 .leaf) [hi,hi,.ptr 0 0] [(0,.cs [hi,hi,hi])] ⟨[(0,.tup [])],[],[],[(0,1,hi),(0,2,hi)],[]⟩ (fun a=>da a.1 a.2.1 a.2.2.2.1 a.2.2.2.2)
def Ci:=mkP 58 Tryz.f58 Tryz.call58 Tryz.func58 (cl [Dz,Cf,Cg,Ay] [sV]) (sl (.seq (.reg [(1,cn 0)]) (.seq (js 16 [14,15] 2 .leaf) (sl (.seq (sl (.blk (.loop ⟨[(6,hi)],(rg 7 5++rg 19 72++rg 92 41),[],(sP 0),[]⟩ [(.ret,⟨[],(rg 6 6++rg 19 114),[],[(0,0,hi),(0,1,hi),(0,2,hi),(1,0,hi),(1,1,hi),(1,2,hi)],[]⟩),(.exit 0,⟨[],(rg 6 6++rg 19 72++rg 92 41),[],(sP 0),[]⟩)] (.seq (js 22 [19,20,21] 3 .leaf) (.joinX ⟨[(6,hi)],(rg 7 5++rg 25 66++rg 92 41),[],(sP 0),[]⟩ (.blk (sl (.seq (.reg [(1,cn 1)]) (.blk (jc 34 [35,36] 2 .leaf (jb 38 (rg 39 6) (.reg [(2,sp),(6,sp)]) (.cond (.reg [(4,cn 2)]) (jc 52 [53,54] 2 .leaf (jb 59 (rg 60 6) (.reg [(2,sp),(6,sp)]) (.cond (.reg [(4,cn 2)]) (jb 73 (rg 74 7) (.reg [(1,sp),(7,sp)]) (.cond (.seq (.reg [(4,cn 3)]) (.seq (js 90 [89] 1 .leaf) (.seq (.reg [(3,oi 0)]) .leaf))) (jb 99 (rg 100 7) (.reg [(1,sp),(7,sp)]) (.cond (.reg [(2,oi 0)]) (jb 110 (rg 111 5) (.reg [(1,sp),(5,sp)]) (.cond (.reg [(6,oi 0)]) (jc 123 [124] 1 (.reg [(7,oi 0)]) .leaf))))))))))))))))) .leaf))))) .leaf))))) [hP,.h (.tl (.ti .i64))] hP (u2 nB)
def Ak:=mkP 61 Tryz.f61 Tryz.call61 Tryz.func61 (cl [vv] []) (sl (.join ⟨[],(rg 5 11),[],[(0,0,hu),(0,1,hu),(0,2,hu),(0,3,hu)],[]⟩ (jb 6 [5] (.reg [(1,{split:=true,con:=0})]) (.cond (.reg [(2,{sel:=true}),(8,{sel:=true})]) .leaf)) .leaf)) [hT,hi] hT (u2 gi)
def jI:=mkI 112 Tryz.f112 Tryz.call112 Tryz.func112 noC (sl (.seq (js 9 (rg 3 6) 6 .leaf) .leaf)) [.ptr 0 0] [(0,.cs [hi,hi,.rww 1 1,.rww 2 1,hi,hi,hb,hi,hi,hi,hi,hi,hi,hi,hi,hi,hi,hi,hb,hb,hi,hi,hi,hi,hi,hb,hb,hu,hu,hu,hu,.rww 3 1]),(1,.ls (.tf 1 (.tp (.ti .i32) aa))),(2,.ls (.tf 2 (.tp (.ti .i32) aa))),(3,.ls (.ti .i32)),(1000,.cs []),(1001,.cs [])] ⟨[(0,hi)],[],[],[],[]⟩ (fun a=>dI a.2.2.2.2.2.2.2.2.2.2.1)
def jH:=mkI 62 Tryz.f62 Tryz.call62 Tryz.func62 (cl [] [jI]) (.reg [(2,oi 0),(34,{sel:=true})]) [.ptr 0 0] [(0,.cs [hi,hi,.rww 1 1,.rww 2 1,hi,hi,hb,hi,hi,hi,hi,hi,hi,hi,hi,hi,hi,hi,hb,hb,hi,hi,hi,hi,hi,hb,hb,hu,hu,hu,hu,.rww 3 1]),(1,.ls (.tf 1 (.tp (.ti .i32) aa))),(2,.ls (.tf 2 (.tp (.ti .i32) aa))),(3,.ls (.ti .i32)),(1000,.cs []),(1001,.cs [])] ⟨[(0,.tup [])],[],[],[(0,13,hi),(0,14,hi),(0,15,hi),(0,16,hi),(0,17,hi),(0,18,hb),(0,19,hb),(0,20,hi),(0,21,hi),(0,22,hi),(0,23,hi),(0,24,hi),(0,25,hb),(0,26,hb)],[]⟩ (fun a=>dH a.2.2.1 a.2.2.2.1 a.2.2.2.2.1 a.2.2.2.2.2.1 a.2.2.2.2.2.2.1 a.2.2.2.2.2.2.2.1 a.2.2.2.2.2.2.2.2.2.2.1 a.2.2.2.2.2.2.2.2.2.2.2.1 a.2.2.2.2.2.2.2.2.2.2.2.2.1 a.2.2.2.2.2.2.2.2.2.2.2.2.2.1 a.2.2.2.2.2.2.2.2.2.2.2.2.2.2.1 a.2.2.2.2.2.2.2.2.2.2.2.2.2.2.2.1 a.2.2.2.2.2.2.2.2.2.2.2.2.2.2.2.2.1 a.2.2.2.2.2.2.2.2.2.2.2.2.2.2.2.2.2.1 a.2.2.2.2.2.2.2.2.2.2.2.2.2.2.2.2.2.2.1 a.2.2.2.2.2.2.2.2.2.2.2.2.2.2.2.2.2.2.2.1 a.2.2.2.2.2.2.2.2.2.2.2.2.2.2.2.2.2.2.2.2.1 a.2.2.2.2.2.2.2.2.2.2.2.2.2.2.2.2.2.2.2.2.2.1 a.2.2.2.2.2.2.2.2.2.2.2.2.2.2.2.2.2.2.2.2.2.2.1 a.2.2.2.2.2.2.2.2.2.2.2.2.2.2.2.2.2.2.2.2.2.2.2.1 a.2.2.2.2.2.2.2.2.2.2.2.2.2.2.2.2.2.2.2.2.2.2.2.2.1 a.2.2.2.2.2.2.2.2.2.2.2.2.2.2.2.2.2.2.2.2.2.2.2.2.2.2.2.2.2.1 a.2.2.2.2.2.2.2.2.2.2.2.2.2.2.2.2.2.2.2.2.2.2.2.2.2.2.2.2.2.2.1 a.2.2.2.2.2.2.2.2.2.2.2.2.2.2.2.2.2.2.2.2.2.2.2.2.2.2.2.2.2.2.2)
def kw:=mkI 20 Tryz.f20 Tryz.call20 Tryz.func20 (cl [jx,ev,nR] []) (sl (.seq (jb 21 (rg 9 12) (.reg [(1,cn 0),(3,sp),(5,cn 0),(8,sp),(10,cn 1),(12,sp)]) .leaf) (.seq (.reg [(1,{fq:=1})]) (.seq (sl (.blk (.loop ⟨[(26,hi)],([8]++rg 27 9),[(1003,.ls (.tf 1 (.tp (.ti .i32) aa)))],[],[]⟩ [(.exit 0,⟨[],([8]++rg 26 10),[(1003,.ls (.tf 1 (.tp (.ti .i32) aa)))],[],[]⟩)] (js 27 [] 0 (sl (.seq (.blk (sl (.reg [(4,cn 2)]))) .leaf)))))) .leaf)))) [hi,hi,hP] [(1000,.cs []),(1001,.cs [])] ⟨[(0,.rww 0 1)],[],[(0,.ls (.tf 1 (.tp (.ti .i32) aa)))],[],[]⟩ (u3 gb)
def gj:=mkI 113 Tryz.f113 Tryz.call113 Tryz.func113 (cl [er] []) (.join ⟨[],(rg 6 41),[],[(0,4,hi)],[]⟩ (jc 12 (rg 6 6) 6 (.reg [(18,cn 0)]) (.reg [(8,cn 0)])) (.seq (.reg [(8,cn 0)]) .leaf)) [.ptr 0 0,hi,hi] [(0,.cs [hi,hi,.rww 1 1,.rww 2 1,hi,hi,hb,hi,hi,hi,hi,hi,hi,hi,hi,hi,hi,hi,hb,hb,hi,hi,hi,hi,hi,hb,hb,hu,hu,hu,hu,.rww 3 1]),(1,.ls (.tf 1 (.tp (.ti .i32) aa))),(2,.ls (.tf 2 (.tp (.ti .i32) aa))),(3,.ls (.ti .i32)),(1000,.cs []),(1001,.cs [])] ⟨[(0,.tup [])],[],[],[(0,4,hi),(0,5,hi),(0,6,.k (.bool false))],[]⟩ (fun a=>ci a.1 a.2.1 a.2.2.1 a.2.2.2.1 a.2.2.2.2.2.2.2.2.2.2.1 a.2.2.2.2.2.2.2.2.2.2.2.1 a.2.2.2.2.2.2.2.2.2.2.2.2.1)
def iw:=mkI 64 Tryz.f64 Tryz.call64 Tryz.func64 (cl [er] [jI]) (.join ⟨[(2,.ptr 4 0)],(rg 3 8),[(4,.cs [hi,hi,hi,hi,hi,hb,hb])],[],[]⟩ (.reg [(2,oi 0),(6,{sel:=true})]) (.seq (.reg [(11,cn 0),(20,cn 0)]) (sl (.join ⟨[],(rg 52 11),[],[(0,12,hi)],[]⟩ (js 53 [52] 1 .leaf) (rs 3))))) [.ptr 0 0] [(0,.cs [hi,hi,.rww 1 1,.rww 2 1,hi,hi,hb,hi,hi,hi,hi,hi,hi,hi,hi,hi,hi,hi,hb,hb,hi,hi,hi,hi,hi,hb,hb,hu,hu,hu,hu,.rww 3 1]),(1,.ls (.tf 1 (.tp (.ti .i32) aa))),(2,.ls (.tf 2 (.tp (.ti .i32) aa))),(3,.ls (.ti .i32)),(1000,.cs []),(1001,.cs [])] ⟨[(0,.tup [])],[],[],[(0,4,hi),(0,5,hi),(0,6,hb),(0,7,hi),(0,8,hi),(0,9,hi),(0,12,hi)],[]⟩ (fun a=>bX a.1 a.2.1 a.2.2.2.2.2.2.2.2.2.2.1 a.2.2.2.2.2.2.2.2.2.2.2.1 a.2.2.2.2.2.2.2.2.2.2.2.2.1 a.2.2.2.2.2.2.2.2.2.2.2.2.2.1 a.2.2.2.2.2.2.2.2.2.2.2.2.2.2.1 a.2.2.2.2.2.2.2.2.2.2.2.2.2.2.2.1 a.2.2.2.2.2.2.2.2.2.2.2.2.2.2.2.2.1 a.2.2.2.2.2.2.2.2.2.2.2.2.2.2.2.2.2.1 a.2.2.2.2.2.2.2.2.2.2.2.2.2.2.2.2.2.2.1 a.2.2.2.2.2.2.2.2.2.2.2.2.2.2.2.2.2.2.2.1 a.2.2.2.2.2.2.2.2.2.2.2.2.2.2.2.2.2.2.2.2.1 a.2.2.2.2.2.2.2.2.2.2.2.2.2.2.2.2.2.2.2.2.2.1 a.2.2.2.2.2.2.2.2.2.2.2.2.2.2.2.2.2.2.2.2.2.2.1 a.2.2.2.2.2.2.2.2.2.2.2.2.2.2.2.2.2.2.2.2.2.2.2.1 a.2.2.2.2.2.2.2.2.2.2.2.2.2.2.2.2.2.2.2.2.2.2.2.2.1 a.2.2.2.2.2.2.2.2.2.2.2.2.2.2.2.2.2.2.2.2.2.2.2.2.2.2.2.2.2.1 a.2.2.2.2.2.2.2.2.2.2.2.2.2.2.2.2.2.2.2.2.2.2.2.2.2.2.2.2.2.2.1 a.2.2.2.2.2.2.2.2.2.2.2.2.2.2.2.2.2.2.2.2.2.2.2.2.2.2.2.2.2.2.2)
def ow:=mkI 63 Tryz.f63 Tryz.call63 Tryz.func63 (cl [] [jH,kw,gj,iw]) (.seq (jb 19 (rg 7 12) (.reg [(2,sp),(6,sp),(12,sp)]) .leaf) (sl (.join ⟨[],(rg 28 48),[(4,.ls (.tf 1 (.tp (.ti .i32) aa))),(5,.ls (.tf 2 (.tp (.ti .i32) aa)))],[(0,2,.rww 4 1),(0,3,.rww 5 1),(0,13,hi),(0,14,hi),(0,15,hi),(0,16,hi),(0,17,hi),(0,18,hb),(0,19,hb),(0,20,hi),(0,21,hi),(0,22,hi),(0,23,hi),(0,24,hi),(0,25,hb),(0,26,hb)],[2,1]⟩ (jb 34 (rg 28 6) (.reg [(2,sp),(6,sp)]) (.cond (jc 35 [] 0 (.seq (.reg [(1,oi 0)]) (.reg [(18,oi 1),(9999,{sw:=true})])) (.reg [(9999,{sw:=true})])) .leaf)) (sl (.join ⟨[],(rg 86 11),[],[(0,12,hi)],[]⟩ (js 86 [] 0 .leaf) (.blk (jc 97 [98,99] 2 (.reg [(1,oi 2)]) (jc 102 [103,104] 2 (sl (jb 113 (rg 109 4) (.reg [(1,sp),(4,sp)]) (.cond (.reg [(1,oi 3)]) .leaf))) .leaf)))))))) [.ptr 0 0,hi,hb] [(0,.cs [hi,hi,.rww 1 1,.rww 2 1,hi,hi,hb,hi,hi,hi,hi,hi,hi,hi,hi,hi,hi,hi,hb,hb,hi,hi,hi,hi,hi,hb,hb,hu,hu,hu,hu,.rww 3 1]),(1,.ls (.tf 1 (.tp (.ti .i32) aa))),(2,.ls (.tf 2 (.tp (.ti .i32) aa))),(3,.ls (.ti .i32)),(1000,.cs [])] ⟨[(0,.tup [])],[],[(4,.ls (.tf 1 (.tp (.ti .i32) aa))),(5,.ls (.tf 2 (.tp (.ti .i32) aa)))],[(0,2,.rww 4 1),(0,3,.rww 5 1),(0,4,hi),(0,5,hi),(0,6,hb),(0,7,hi),(0,8,hi),(0,9,hi),(0,12,hi),(0,13,hi),(0,14,hi),(0,15,hi),(0,16,hi),(0,17,hi),(0,18,hb),(0,19,hb),(0,20,hi),(0,21,hi),(0,22,hi),(0,23,hi),(0,24,hi),(0,25,hb),(0,26,hb)],[1,2]⟩ (fun a=>fB a.1 a.2.1 a.2.2.1 a.2.2.2.1 a.2.2.2.2.1 a.2.2.2.2.2.1 a.2.2.2.2.2.2.1 a.2.2.2.2.2.2.2.1 a.2.2.2.2.2.2.2.2.1 a.2.2.2.2.2.2.2.2.2.1 a.2.2.2.2.2.2.2.2.2.2.1 a.2.2.2.2.2.2.2.2.2.2.2.1 a.2.2.2.2.2.2.2.2.2.2.2.2.1 a.2.2.2.2.2.2.2.2.2.2.2.2.2.1 a.2.2.2.2.2.2.2.2.2.2.2.2.2.2.1 a.2.2.2.2.2.2.2.2.2.2.2.2.2.2.2.1 a.2.2.2.2.2.2.2.2.2.2.2.2.2.2.2.2.1 a.2.2.2.2.2.2.2.2.2.2.2.2.2.2.2.2.2.1 a.2.2.2.2.2.2.2.2.2.2.2.2.2.2.2.2.2.2.1 a.2.2.2.2.2.2.2.2.2.2.2.2.2.2.2.2.2.2.2.1 a.2.2.2.2.2.2.2.2.2.2.2.2.2.2.2.2.2.2.2.2.1 a.2.2.2.2.2.2.2.2.2.2.2.2.2.2.2.2.2.2.2.2.2.1 a.2.2.2.2.2.2.2.2.2.2.2.2.2.2.2.2.2.2.2.2.2.2.1 a.2.2.2.2.2.2.2.2.2.2.2.2.2.2.2.2.2.2.2.2.2.2.2.1 a.2.2.2.2.2.2.2.2.2.2.2.2.2.2.2.2.2.2.2.2.2.2.2.2.1 a.2.2.2.2.2.2.2.2.2.2.2.2.2.2.2.2.2.2.2.2.2.2.2.2.2.1 a.2.2.2.2.2.2.2.2.2.2.2.2.2.2.2.2.2.2.2.2.2.2.2.2.2.2.1 a.2.2.2.2.2.2.2.2.2.2.2.2.2.2.2.2.2.2.2.2.2.2.2.2.2.2.2.2.2.2.2.1 a.2.2.2.2.2.2.2.2.2.2.2.2.2.2.2.2.2.2.2.2.2.2.2.2.2.2.2.2.2.2.2.2.1 a.2.2.2.2.2.2.2.2.2.2.2.2.2.2.2.2.2.2.2.2.2.2.2.2.2.2.2.2.2.2.2.2.2) [1001]
def uF:=mkI 7 Tryz.f7 Tryz.call7 Tryz.func7 (cl [sE] [kw]) (sl (.seq (.reg [(3,oi 0)]) (.seq (js 13 [11,12] 2 .leaf) (.seq (.reg [(6,cn 0)]) .leaf)))) [hi,hi] [(1000,.cs []),(1001,.cs [])] ⟨[(0,.tup [.agg [hi,hi,.rww 0 1,.k .nils,.k (.int .i64 0),.k (.int .i64 0),.k (.bool false),.k (.int .i64 0),.k (.int .i64 0),.k (.int .i64 0),.k (.int .i64 0),hi,hi,.k (.int .i64 0),.k (.int .i64 0),.k (.int .i64 0),.k (.int .i64 0),.k (.int .i64 0),.k (.bool false),.k (.bool false),.k (.int .i64 0),.k (.int .i64 0),.k (.int .i64 0),.k (.int .i64 0),.k (.int .i64 0),.k (.bool false),.k (.bool false),hu,hu,hu,hu,.k .nils],hi])],[],[(0,.ls (.tf 1 (.tp (.ti .i32) aa)))],[],[]⟩ (u2 jM)
def ou:=mkI 115 Tryz.f115 Tryz.call115 Tryz.func115 (cl [er] []) (sl (.join ⟨[(6,hi)],(rg 14 16),[],[],[]⟩ (js 24 (rg 14 10) 10 .leaf) (.join ⟨[(7,hi)],(rg 30 16),[],[],[]⟩ (js 40 (rg 30 10) 10 .leaf) (.join ⟨[],(rg 46 32),[],[(0,4,hi)],[]⟩ (.blk (jc 46 [47,48] 2 .leaf (js 62 [63,64] 2 .leaf))) (.reg [(14,cn 0)]))))) [.ptr 0 0,hi,hi] [(0,.cs [hi,hi,.rww 1 1,.rww 2 1,hi,hi,hb,hi,hi,hi,hi,hi,hi,hi,hi,hi,hi,hi,hb,hb,hi,hi,hi,hi,hi,hb,hb,hu,hu,hu,hu,.rww 3 1]),(1,.ls (.tf 1 (.tp (.ti .i32) aa))),(2,.ls (.tf 2 (.tp (.ti .i32) aa))),(3,.ls (.ti .i32)),(1000,.cs []),(1001,.cs [])] ⟨[(0,.tup [])],[],[],[(0,4,hi),(0,5,hi)],[]⟩ (fun a=>fx a.1 a.2.1 a.2.2.1 a.2.2.2.1 a.2.2.2.2.1 a.2.2.2.2.2.1 a.2.2.2.2.2.2.2.2.2.2.1 a.2.2.2.2.2.2.2.2.2.2.2.1)
def oV:=mkP 149 Tryz.f149 Tryz.call149 Tryz.func149 noC (sl (.seq (js 4 [3] 1 .leaf) .leaf)) [hu] hi bn
theorem yw:∀g cells,lget En.G g=some cells->cells.all plX=true:=by
 intro g cells h
 simp only [En,gtPV,GT,List.map_cons,List.map_nil,lget] at h
 split at h
 ·simp at h;subst h;kernel_rfl
 ·split at h
  ·simp at h;subst h;kernel_rfl
  ·simp at h
abbrev tc4 (a:Int×fa.T):List PV:=[.int .u64 a.1,.int .u64 a.2.1,.int .u64 a.2.2.1,.int .u64 a.2.2.2]
def tI_B:Code:=cK Tryz.f148
def JR:Code:=cFst tI_B
def tI_b:Code:=cIn (cIn (cSnd tI_B))
def JQ:Code:=cFst tI_b
def JT:Code:=cIn (cFst (cSnd (cSnd tI_b)))
def JN:Code:=cSnd (cSnd (cSnd tI_b))
def BN:Code:=cFst JT
def GF:Code:=cIn (cIn (cSnd JT))
def JP:Code:=cFst (cFst GF)
def JS:Code:=cIn (cFst (cSnd GF))
def JO:Code:=cSnd (cSnd GF)
def qV:Code:=cFst JS
def iM:Code:=cFst (cSnd JS)
def tI_o:Oper:=opAt iM 5
def Ev:Oper:=opAt qV 3
theorem LM:cK Tryz.f148 = .seq JR (.block 0 (.loop (.seq JQ (.seq (.cond (.tmp 8) .skip (.exit 0)) (.seq (.block 1 (.seq BN (.block 2 (.loop (.seq (.seq JP (.cond (.tmp 12) .skip (.exit 2))) (.seq (.block 3 (.seq qV (.seq (.region 6 (aQ iM) false) (.cond (.tmp 29) .ret .skip)))) JO)))))) JN))))) :=by kernel_rfl
theorem Iz:(aQ iM).toList=(aQ iM).toList.take 3++(((aQ iM).toList.drop 3).take 2++(⟨some 27,.call ⟨.value (.tmp 25),#[.tmp 26],wO tI_o⟩,tI_o.type,tI_o.pos,tI_o.after,some (2,false)⟩::(aQ iM).toList.drop 6)):=by kernel_rfl
theorem LN:(aQ qV).toList.drop 3=⟨some 20,.call ⟨.value (.func 149),#[.tmp 19],wO Ev⟩,Ev.type,Ev.pos,Ev.after,none⟩::(aQ qV).toList.drop 4:=by kernel_rfl
section
variable (a:Int×fa.T) (l:Nat) (i w x:Int)
theorem LG:gP En.P En.G Tryz.f148.ntmps (aQ JR) [0,6,7] [(0,.raw l),(1,.rop (tc4 a) 0)] []=some (AO l (tc4 a) 0,[]):=by kernel_rfl
theorem LF:gP En.P En.G Tryz.f148.ntmps (aQ JQ) [8,0,6,7] (AO l (tc4 a) i) []=some ((8,.bool (decide (i<4)))::AO l (tc4 a) i,[]):=by kernel_rfl
theorem Kh:gP En.P En.G Tryz.f148.ntmps (aQ BN) [4,3,0,6,7] (AO l (tc4 a) ((0:Nat):Int)) []=some (AI l (tc4 a) ((0:Nat):Int) a.1,[]):=by kernel_rfl
theorem Kg:gP En.P En.G Tryz.f148.ntmps (aQ BN) [4,3,0,6,7] (AO l (tc4 a) ((1:Nat):Int)) []=some (AI l (tc4 a) ((1:Nat):Int) a.2.1,[]):=by kernel_rfl
theorem Kf:gP En.P En.G Tryz.f148.ntmps (aQ BN) [4,3,0,6,7] (AO l (tc4 a) ((2:Nat):Int)) []=some (AI l (tc4 a) ((2:Nat):Int) a.2.2.1,[]):=by kernel_rfl
theorem Ke:gP En.P En.G Tryz.f148.ntmps (aQ BN) [4,3,0,6,7] (AO l (tc4 a) ((3:Nat):Int)) []=some (AI l (tc4 a) ((3:Nat):Int) a.2.2.2,[]):=by kernel_rfl
theorem LE:gP En.P En.G Tryz.f148.ntmps (aQ JP) [12,4,3,0,6,7] (AI l (tc4 a) i w) []=some ((12,.bool (w !=0))::AI l (tc4 a) i w,[]):=by kernel_rfl
theorem LC:(xrun En.P En.G Tryz.f148.ntmps (aQ qV) 3 (aQ qV).toList (AI l (tc4 a) i w) []).map (fun s=>(iA [19,18,4,3,0,6,7] s.1,s.2))=some ((19,.int .u64 w)::(18,.int .i64 (IntKind.wrap .i64 (64*i)))::AI l (tc4 a) i w,[]):=by kernel_rfl
theorem LB:(xrun En.P En.G Tryz.f148.ntmps (aQ qV) ((aQ qV).toList.drop 4).length ((aQ qV).toList.drop 4) ((20,.int .i64 x)::(19,.int .u64 w)::(18,.int .i64 (IntKind.wrap .i64 (64*i)))::AI l (tc4 a) i w) []).map (fun s=>(iA [5,4,3,0,6,7] s.1,s.2))=some (A5 l (tc4 a) i w (vA i x),[]):=by kernel_rfl
theorem LK:(xrun En.P En.G Tryz.f148.ntmps (aQ iM) ((aQ iM).toList.take 3).length ((aQ iM).toList.take 3) (A5 l (tc4 a) i w x) []).map (fun s=>(iA [24,5,4,3,0,6,7] s.1,s.2))=some ((24,.bool (decide (x>=200)))::A5 l (tc4 a) i w x,[]):=by kernel_rfl
theorem LJ:(xrun En.P En.G Tryz.f148.ntmps (aQ iM) (((aQ iM).toList.drop 3).take 2++(⟨some 27,.call ⟨.value (.tmp 25),#[.tmp 26],wO tI_o⟩,tI_o.type,tI_o.pos,tI_o.after,some (2,false)⟩::(aQ iM).toList.drop 6)).length (((aQ iM).toList.drop 3).take 2++(⟨some 27,.call ⟨.value (.tmp 25),#[.tmp 26],wO tI_o⟩,tI_o.type,tI_o.pos,tI_o.after,some (2,false)⟩::(aQ iM).toList.drop 6)) ((24,.bool true)::A5 l (tc4 a) i w x) []).map (fun s=>(iA [29,5,4,3,0,6,7] s.1,s.2))=some ((29,.bool true)::A5 l (tc4 a) i w x,[]):=by kernel_rfl
theorem LI:(xrun En.P En.G Tryz.f148.ntmps (aQ iM) (((aQ iM).toList.drop 3).take 2).length (((aQ iM).toList.drop 3).take 2) ((24,.bool false)::A5 l (tc4 a) i w x) []).map (fun s=>(iA [25,26,24,5,4,3,0,6,7] s.1,s.2))=some ((25,.raw l)::(26,.int .i64 x)::(24,.bool false)::A5 l (tc4 a) i w x,[]):=by kernel_rfl
theorem LH (b:Bool):(xrun En.P En.G Tryz.f148.ntmps (aQ iM) ((aQ iM).toList.drop 6).length ((aQ iM).toList.drop 6) ((27,.bool b)::(25,.raw l)::(26,.int .i64 x)::(24,.bool false)::A5 l (tc4 a) i w x) []).map (fun s=>(iA [29,5,4,3,0,6,7] s.1,s.2))=some ((29,.bool (!b))::A5 l (tc4 a) i w x,[]):=by kernel_rfl
theorem LD:gP En.P En.G Tryz.f148.ntmps (aQ JO) [4,3,0,6,7] (A5 l (tc4 a) i w x) []=some (AI l (tc4 a) i (wU w),[]):=by kernel_rfl
theorem LA:gP En.P En.G Tryz.f148.ntmps (aQ JN) [0,6,7] (AO l (tc4 a) i) []=some (AO l (tc4 a) (IntKind.wrap .i64 (i+1)),[]):=by kernel_rfl
theorem tI_w:iL (aQ iM) ((25,.raw l)::(26,.int .i64 x)::(24,.bool false)::A5 l (tc4 a) i w x) ⟨some 27,.call ⟨.value (.tmp 25),#[.tmp 26],wO tI_o⟩,tI_o.type,tI_o.pos,tI_o.after,some (2,false)⟩=some true:=by kernel_rfl
end
theorem Lz (w z:Int) (h:bn w=some z):Pure En 149 [.int .u64 w] (.int .i64 z):=oV.ok w z h
theorem Ew (a:Int×fa.T) {full:List Int} (h:jB a=some full):C3 En 148 [.rop (tc4 a) 0] full:=
 I0 rfl yw Tryz.func148 rfl rfl (by decide) rfl (ws:=[a.1,a.2.1,a.2.2.1,a.2.2.2]) rfl LM Iz (tI_w a)
  (fun l=>pcx _ _ _ rfl (LG a l)) (fun l i=>pcx _ _ _ rfl (LF a l i))
  (fun l i w h=>by
   match i,h with
   | 0,h=>simp at h;subst h;exact pcx _ _ _ rfl (Kh a l)
   | 1,h=>simp at h;subst h;exact pcx _ _ _ rfl (Kg a l)
   | 2,h=>simp at h;subst h;exact pcx _ _ _ rfl (Kf a l)
   | 3,h=>simp at h;subst h;exact pcx _ _ _ rfl (Ke a l)
   | i+4,h=>simp at h)
  (fun l i w=>pcx _ _ _ rfl (LE a l i w))
  (fun l i w z h=>pcut (c:=qV) rfl 3 _ _ _ (LC a l i w) (by
   rw [LN]
   exact LU iC _ _ _ rfl rfl Tryz.call149 (Lz w z h) rfl rfl (LB a l i w z) ⟨rfl,rfl,rfl⟩))
  (fun l i w x=>pcl _ _ _ (LK a l i w x)) (fun l i w x=>pcl _ _ _ (LJ a l i w x)) (fun l i w x=>pcl _ _ _ (LI a l i w x)) (fun l i w x b=>pcl _ _ _ (LH a l i w x b))
  (fun l i w x=>pcx _ _ _ rfl (LD a l i w x)) (fun l i=>pcx _ _ _ rfl (LA a l i)) h
def Ex:Code:=cFst (cK Tryz.f137)
def LO:Code:=cFst (cSnd (cK Tryz.f137))
theorem LQ:cK Tryz.f137 = .seq Ex (.seq LO .ret):=by kernel_rfl
theorem LP:(aQ Ex).toList=opAt Ex 0::(aQ Ex).toList.drop 1:=by kernel_rfl
theorem GG (a:Int×fa.T) (lab:Nat):eR En 137 [.agg (tc4 a)] [] fun r L'=>r = .fn 148 [.ptr lab 0]/\L'=[(lab,some (tc4 a))]:=
 Dk rfl Tryz.func137 rfl (by decide) lab LQ rfl rfl LP (by kernel_rfl) (by kernel_rfl) (by kernel_rfl) (by kernel_rfl) (by kernel_rfl) (by kernel_rfl)
def tN_B:Code:=cK Tryz.f116
def Li:Code:=cFst tN_B
def Lh:Code:=cFst (cSnd tN_B)
def tN_m:Code:=cFst (cSnd (cSnd tN_B))
def GD:Code:=cFst tN_m
def JJ:Code:=cIn (cSnd tN_m)
def Lg:Code:=cAs JJ
def JK:Code:=cIn (cBd JJ)
def Lf:Code:=cFst JK
def Le:Code:=cFst (Mh (cSnd JK))
def Ld:Code:=cFst (cSnd (cSnd (cSnd tN_B)))
def tN_o:Oper:=opAt GD 1
theorem Lm:cK Tryz.f116 = .seq Li (.seq Lh (.seq (.seq GD (.block 0 (.rangeFunc (.tmp 12) #[13] Lg (.block 1 (.seq Lf (.cond (.tmp 21) (.seq Le .ret) .skip)))))) (.seq Ld .ret))):=by kernel_rfl
theorem La:(aQ GD).toList.drop 1=[⟨some 12,.call ⟨.value (.func 137),#[.tmp 11],wO tN_o⟩,tN_o.type,tN_o.pos,tN_o.after,none⟩]:=by kernel_rfl
theorem Ll (a:Int×fa.T) (b c:Int) (al:Al) (r:Int) (h:lget al 6=some (.ptr 3 0)):xres En.P al (Ln4 (tc4 a) b c r) Tryz.f116.results.toList=some [.int .i64 r]:=by
 show (match lget al 6,xres En.P al (Ln4 (tc4 a) b c r) [] with
  | some p,some xs=>match kL En.P 3 (Ln4 (tc4 a) b c r) p with
   | some x=>some (x::xs)
   | none=>none
  | _,_=>none)=_
 rw [h]
 kernel_rfl
theorem Lj (a:Int×fa.T) (b c:Int) {full:List Int} (h:jB a=some full):Pure En 116 [.agg (tc4 a),.int .i64 b,.int .i64 c] (.int .i64 (vG b (aR c) full)):=
 IU rfl iC yw Tryz.func116 rfl (by decide) rfl (by simp) rfl Tryz.call137 Tryz.call148 (GG a 4) (Ew a h) Lm ⟨rfl,rfl,rfl,rfl,rfl,rfl,rfl⟩ (by kernel_rfl) (by kernel_rfl) (by kernel_rfl) La rfl (fun r x=>by kernel_rfl) (fun r x=>by kernel_rfl) (fun r x=>by kernel_rfl) (fun r x=>by kernel_rfl) (fun r x=>by kernel_rfl) (fun r=>by kernel_rfl) (Ll a b (aR c))
def BL:PCon En:=⟨116,[.st (.tp (.ti .u64) fa),.h (.ti .i64),.h (.ti .i64)],.h (.ti .i64),fun a=>jm a.1 a.2.1 a.2.2,Tryz.call116,fun a v h=>by
 obtain ⟨l,h1,h2⟩:=Option.bind_eq_some_iff.1 h
 have h2:=Option.some.inj h2;subst h2
 exact Lj a.1 a.2.1 a.2.2 h1⟩
def tK_B:Code:=cK Tryz.f117
def Lv:Code:=cFst tK_B
def Lu:Code:=cFst (cSnd tK_B)
def tK_m:Code:=cFst (cSnd (cSnd tK_B))
def GE:Code:=cFst tK_m
def JL:Code:=cIn (cSnd tK_m)
def Lt:Code:=cAs JL
def JM:Code:=cIn (cBd JL)
def Ls:Code:=cFst (cFst JM)
def Lq:Code:=cSnd JM
def Lp:Code:=cFst (cSnd (cSnd (cSnd tK_B)))
def tK_o:Oper:=opAt GE 1
theorem Ly:cK Tryz.f117 = .seq Lv (.seq Lu (.seq (.seq GE (.block 0 (.rangeFunc (.tmp 8) #[9] Lt (.block 1 (.seq (.seq Ls (.cond (.tmp 12) (.exit 0) .skip)) Lq))))) (.seq Lp .ret))):=by kernel_rfl
theorem Lo:(aQ GE).toList.drop 1=[⟨some 8,.call ⟨.value (.func 137),#[.tmp 7],wO tK_o⟩,tK_o.type,tK_o.pos,tK_o.after,none⟩]:=by kernel_rfl
theorem Lx (a:Int×fa.T) (b:Int) {full:List Int} (h:jB a=some full):Pure En 117 [.agg (tc4 a),.int .i64 b] (.int .i64 (uh b full)):=
 Jo rfl iC yw Tryz.func117 rfl (by decide) rfl (by simp) rfl Tryz.call137 Tryz.call148 (GG a 3) (Ew a h) Ly ⟨rfl,rfl,rfl,rfl,rfl,rfl,rfl⟩ (by kernel_rfl) (by kernel_rfl) (by kernel_rfl) Lo rfl (fun r x=>by kernel_rfl) (fun r x=>by kernel_rfl) (fun r x=>by kernel_rfl) (fun r=>by kernel_rfl) (fun r=>by kernel_rfl)
def BM:PCon En:=⟨117,[.st (.tp (.ti .u64) fa),.h (.ti .i64)],.h (.ti .i64),fun a=>jn a.1 a.2,Tryz.call117,fun a v h=>by
 obtain ⟨l,h1,h2⟩:=Option.bind_eq_some_iff.1 h
 have h2:=Option.some.inj h2;subst h2
 exact Lx a.1 a.2 h1⟩
def ov:=mkI 65 Tryz.f65 Tryz.call65 Tryz.func65 (cl [er,BL,BM] [jJ,fL,gj,ou]) (sl (sl (.blk (jc 6 [7] 1 (sl (.blk (.loop ⟨[(10,hi)],(rg 11 4),[(4,.ls (.tf 1 (.tp (.ti .i32) aa)))],[(0,2,.rww 4 1),(0,4,hi)],[1]⟩ [(.exit 1,⟨[],(rg 10 5),[(4,.ls (.tf 1 (.tp (.ti .i32) aa)))],[(0,2,.rww 4 1),(0,4,hi)],[1]⟩)] (js 11 [] 0 (sl (.seq (.blk (.reg [(1,oi 0)])) .leaf)))))) (jc 15 [16] 1 (jc 27 (rg 17 10) 10 (.reg [(6,oi 1)]) .leaf) (jc 46 [47] 1 .leaf (jc 52 [53] 1 (.reg [(5,oi 2)]) (jc 60 [61] 1 (.reg [(5,oi 3)]) (jc 68 [69] 1 (.reg [(9,cn 0)]) (jc 83 [84] 1 (.reg [(8,oi 2)]) (jc 94 [95] 1 (.seq (sl (.blk (.loop ⟨[(98,hi)],(rg 99 22),[],[(0,5,hi)],[]⟩ [(.exit 3,⟨[],(rg 98 23),[],[(0,5,hi)],[]⟩)] (js 99 [] 0 (sl (.seq (.blk (.reg [(16,cn 1)])) .leaf)))))) (sl (.blk (.loop ⟨[(124,hi)],(rg 125 17),[],[(0,5,hi)],[]⟩ [(.exit 5,⟨[],(rg 124 18),[],[(0,5,hi)],[]⟩)] (js 125 [] 0 (sl (.seq (.blk (.reg [(11,cn 2)])) .leaf))))))) .leaf))))))))))) [.ptr 0 0,hC] [(0,.cs [hi,hi,.rww 1 1,.rww 2 1,hi,hi,hb,hi,hi,hi,hi,hi,hi,hi,hi,hi,hi,hi,hb,hb,hi,hi,hi,hi,hi,hb,hb,hu,hu,hu,hu,.rww 3 1]),(1,.ls (.tf 1 (.tp (.ti .i32) aa))),(2,.ls (.tf 2 (.tp (.ti .i32) aa))),(3,.ls (.ti .i32)),(1000,.cs []),(1001,.cs [])] ⟨[(0,.tup [])],[],[(4,.ls (.tf 1 (.tp (.ti .i32) aa)))],[(0,2,.rww 4 1),(0,4,hi),(0,5,hi),(0,6,hb)],[1]⟩ (fun a=>fy a.1 a.2.1 a.2.2.1 a.2.2.2.1 a.2.2.2.2.1 a.2.2.2.2.2.1 a.2.2.2.2.2.2.1 a.2.2.2.2.2.2.2.1 a.2.2.2.2.2.2.2.2.1 a.2.2.2.2.2.2.2.2.2.1 a.2.2.2.2.2.2.2.2.2.2.1 a.2.2.2.2.2.2.2.2.2.2.2.1 a.2.2.2.2.2.2.2.2.2.2.2.2.2.2.2.2.2.2.2.2.2.2.2.2.2.2.1 a.2.2.2.2.2.2.2.2.2.2.2.2.2.2.2.2.2.2.2.2.2.2.2.2.2.2.2.1 a.2.2.2.2.2.2.2.2.2.2.2.2.2.2.2.2.2.2.2.2.2.2.2.2.2.2.2.2.1 a.2.2.2.2.2.2.2.2.2.2.2.2.2.2.2.2.2.2.2.2.2.2.2.2.2.2.2.2.2.1 a.2.2.2.2.2.2.2.2.2.2.2.2.2.2.2.2.2.2.2.2.2.2.2.2.2.2.2.2.2.2.1 a.2.2.2.2.2.2.2.2.2.2.2.2.2.2.2.2.2.2.2.2.2.2.2.2.2.2.2.2.2.2.2.1 a.2.2.2.2.2.2.2.2.2.2.2.2.2.2.2.2.2.2.2.2.2.2.2.2.2.2.2.2.2.2.2.2)
def rU:=mkI 150 Tryz.f150 Tryz.call150 Tryz.func150 noC (sl (.seq (.reg [(3,sp),(10,sp),(15,sp)]) .leaf)) [.st (.tp (.ti .i64) (.ti .i64)),.ptr 0 0] [(0,.cs [.rww 1 1]),(1,.ls (.tf 1 (.tp (.ti .i32) aa))),(1000,.cs []),(1001,.cs [])] ⟨[(0,hb)],[],[],[],[]⟩ (u2 ga)
theorem tK (a:HT (Sh.hss [.h (.tl (.tp (.ti .i32) aa)),.h (.ti .i64),.h (.ti .i64),.st bg])):DFF En GT (cl [mC,iq] [cJ,fv]) Tryz.f120.ntmps Tryz.f120.results.toList (cK Tryz.f120) (.seq .leaf (.seq (.join ⟨[(13,.h .tb)],[10,11,12],[],[],[]⟩ (.reg [(2,{con:=0}),(3,{split:=true})]) .leaf) (.seq (.reg [(1,{io:=some 0})]) (.seq .leaf (.seq (.join ⟨[(24,.h .tb)],[22,23],[],[],[]⟩ (.reg [(2,{split:=true})]) .leaf) (.seq (.reg [(2,{io:=some 1})]) (.seq (.reg [(2,{io:=some 1})]) (.seq (.reg [(8,{con:=1})]) .leaf)))))))) [.h (.tl (.tp (.ti .i32) aa)),.h (.ti .i64),.h (.ti .i64),.st bg] 1 (.tp (.ti .i32) aa) a=eJ a.1 a.2.1 a.2.2.1 a.2.2.2:=by kernel_rfl
def nQ:PCon En:=⟨120,[.h (.tl (.tp (.ti .i32) aa)),.h (.ti .i64),.h (.ti .i64),.st bg],.h (.tf 1 (.tp (.ti .i32) aa)),fun a=>eJ a.1 a.2.1 a.2.2.1 a.2.2.2,Tryz.call120,fun a v h=>kC rfl cX rfl iC Tryz.func120 rfl rfl (by decide) ((tK a).trans h)⟩
def u6:=mkI 138 Tryz.f138 Tryz.call138 Tryz.func138 (cl [mf,ev,nQ] [mF,rU]) (sl (.seq (jb 21 (rg 14 7) (.reg [(1,cn 0),(3,sp),(5,cn 1),(7,sp)]) .leaf) (.seq (.reg [(1,oi 0)]) (sl (.seq (jb 34 (rg 25 9) (.reg [(2,oi 1),(4,sp),(7,oi 1),(9,sp)]) .leaf) (.seq (sl (.blk (.loop ⟨[(11,hi)],([12,13]++rg 38 34),[(1006,.ls (.tf 1 (.tp (.ti .i32) aa)))],[],[]⟩ [(.exit 0,⟨[],([11,12,13]++rg 38 34),[(1006,.ls (.tf 1 (.tp (.ti .i32) aa)))],[],[]⟩)] (.seq (js 41 [38,39,40] 3 .leaf) (.seq (.blk (sl (.join ⟨[(12,hi)],(rg 48 6),[],[],[]⟩ (js 51 [48,49,50] 3 .leaf) (.join ⟨[(13,hi)],(rg 54 7),[],[],[]⟩ (js 57 [54,55,56] 3 .leaf) (.reg [(9,cn 2)]))))) .leaf))))) .leaf)))))) [.rww 0 1,.st (.tp (.ti .i64) (.ti .i64)),.st (.tp (.ti .i64) (.ti .i64)),hP] [(0,.ls (.tf 1 (.tp (.ti .i32) aa))),(1000,.cs []),(1001,.cs [])] ⟨[(0,.rww 1 1)],[],[(1,.ls (.tf 1 (.tp (.ti .i32) aa)))],[],[]⟩ (u4 eM)
def nr:=mkI 118 Tryz.f118 Tryz.call118 Tryz.func118 (cl [] [u6]) (sl (sl (.blk (jc 11 [12] 1 (.reg [(13,oi 0)]) (jc 30 [31] 1 (.reg [(13,oi 0)]) (jc 49 [50] 1 (.reg [(13,oi 0)]) .leaf)))))) [.ptr 0 0,hi,.st (.tp (.ti .i64) (.ti .i64)),.st (.tp (.ti .i64) (.ti .i64)),.st (.tp (.ti .i64) (.ti .i64))] [(0,.cs [hi,hi,.rww 1 1,.rww 2 1,hi,hi,hb,hi,hi,hi,hi,hi,hi,hi,hi,hi,hi,hi,hb,hb,hi,hi,hi,hi,hi,hb,hb,hu,hu,hu,hu,.rww 3 1]),(1,.ls (.tf 1 (.tp (.ti .i32) aa))),(2,.ls (.tf 2 (.tp (.ti .i32) aa))),(3,.ls (.ti .i32)),(1000,.cs []),(1001,.cs [])] ⟨[(0,.tup [])],[],[(4,.ls (.tf 1 (.tp (.ti .i32) aa)))],[(0,2,.rww 4 1)],[1]⟩ (fun a=>dj a.1 a.2.1 a.2.2.1 a.2.2.2.1 a.2.2.2.2.2.2.2.2.2.1 a.2.2.2.2.2.2.2.2.2.2.1 a.2.2.2.2.2.2.2.2.2.2.2.1 a.2.2.2.2.2.2.2.2.2.2.2.2.2.2.2.2.2.2.2.2.2.2.2.2.2.2.2.2.2.2.2.2.2.1)
theorem rS (a:HT (Sh.hss [.h (.tl (.tp (.ti .i32) aa)),.h (.ti .i64),.h (.ti .i64),.st bg])):DFF En GT (cl [mC,iq] [cJ,fv]) Tryz.f119.ntmps Tryz.f119.results.toList (cK Tryz.f119) (.seq .leaf (.seq (.join ⟨[(13,.h .tb)],[10,11,12],[],[],[]⟩ (.reg [(2,{con:=0}),(3,{split:=true})]) .leaf) (.seq (.reg [(1,{io:=some 0})]) (.seq (.join ⟨[(27,.h .tb)],[16,17,18,19,20,21,22,23,24,25,26],[],[],[]⟩ (.reg [(2,{split:=true}),(6,{split:=true}),(11,{split:=true})]) .leaf) (.seq .leaf (.seq (.reg [(2,{io:=some 1})]) (.seq (.reg [(4,{io:=some 1})]) (.seq .leaf (.seq (.reg [(8,{con:=1})]) .leaf))))))))) [.h (.tl (.tp (.ti .i32) aa)),.h (.ti .i64),.h (.ti .i64),.st bg] 1 (.tp (.ti .i32) aa) a=fw a.1 a.2.1 a.2.2.1 a.2.2.2:=by kernel_rfl
def tL:PCon En:=⟨119,[.h (.tl (.tp (.ti .i32) aa)),.h (.ti .i64),.h (.ti .i64),.st bg],.h (.tf 1 (.tp (.ti .i32) aa)),fun a=>fw a.1 a.2.1 a.2.2.1 a.2.2.2,Tryz.call119,fun a v h=>kC rfl cX rfl iC Tryz.func119 rfl rfl (by decide) ((rS a).trans h)⟩
def aD:List Sh:=[.ptr 0 0]
def af:List (Nat×LSh):=[(0,.cs [.h (.ti .i64),.h (.ti .i64),.rww 1 1,.rww 2 1,.h (.ti .i64),.h (.ti .i64),.h .tb,.h (.ti .i64),.h (.ti .i64),.h (.ti .i64),.h (.ti .i64),.h (.ti .i64),.h (.ti .i64),.h (.ti .i64),.h (.ti .i64),.h (.ti .i64),.h (.ti .i64),.h (.ti .i64),.h .tb,.h .tb,.h (.ti .i64),.h (.ti .i64),.h (.ti .i64),.h (.ti .i64),.h (.ti .i64),.h .tb,.h .tb,.h (.ti .u64),.h (.ti .u64),.h (.ti .u64),.h (.ti .u64),.rww 3 1]),(1,.ls (.tf 1 (.tp (.ti .i32) aa))),(2,.ls (.tf 2 (.tp (.ti .i32) aa))),(3,.ls (.ti .i32)),(1000,.cs [])]
def iU:Tm:=⟨[(0,.tup [])],[],[(1,.ls (.tf 1 (.tp (.ti .i32) aa)))],[(0,4,.k (.int .i64 0)),(0,5,.k (.int .i64 0)),(0,10,.k (.int .i64 0)),(0,11,.h (.ti .i64))],[]⟩
abbrev am:ET:=.tp (.ti .i32) aa
def jp:am.T:=(69,(0,0),0,0,0,0)
def fV (a:HT (Sh.hss aD++hsL af)):DLb:=(inS aD af (ai _ a)).L
def aN (a:HT (Sh.hss aD++hsL af)):List DV:=match fV a with
 | (_,.cs d)::_=>d
 | _=>[]
def aI (a:HT (Sh.hss aD++hsL af)):DLb:=match fV a with
 | _::_::r=>r
 | _=>[]
def fW:Code:=(cK Tryz.f121)
def iT:Code:=cFst (cFst fW)
def fN:Code:=cIn (cIn (cSnd (cFst fW)))
def iS:Code:=cFst fN
def iX:Code:=cIn (cFst (cSnd (cSnd fN)))
def iN:Code:=cSnd (cSnd (cSnd fN))
def aM:Code:=cFst iX
def iW:Code:=cSnd iX
def iR:Code:=cFst iW
def fM:Code:=cIn (cIn (cSnd iW))
def iQ:Code:=cFst fM
def iP:Code:=cIn (cFst (cSnd (cSnd fM)))
def iO:Code:=cSnd (cSnd (cSnd fM))
def iV:Code:=cSnd fW
theorem nt (a:HT (Sh.hss aD++hsL af)):fV a=(0,.cs (aN a))::(1,.ls (.tf 1 am) a.2.2.2.2.2.2.2.2.2.2.2.2.2.2.2.2.2.2.2.2.2.2.2.2.2.2.2.2.2.1)::aI a:=by kernel_rfl
theorem mY (a:HT (Sh.hss aD++hsL af)):D En GT noC Tryz.f121.ntmps iT .leaf _ (keys af) (sA0 am (aN a) (aI a) a.2.2.2.2.2.2.2.2.2.2.2.2.2.2.2.2.2.2.2.2.2.2.2.2.2.2.2.2.2.1) pA (fun _ _=>none)=some (a.2.2.2.2.2.2.2.2.2.2.2.2.2.2.2.2.2.2.2.2.2.2.2.2.2.2.2.2.2.1.length,(a.2.2.2.2.2.2.2.2.2.2.2.2.2.2.2.2.2.2.2.2.2.2.2.2.2.2.2.2.2.1.length:Int),0):=by kernel_rfl
theorem mX (a:HT (Sh.hss aD++hsL af)) (N:Nat) (r:Int) (rs:List (List am.T)) (tl:DLb):D En GT noC Tryz.f121.ntmps iS .leaf _ (keys af) (sA am (aN a) (aI a) N r rs tl) pB (fun _ _=>none)=some ((N,(N:Int),r),decide (r<N)):=by kernel_rfl
theorem mS (a:HT (Sh.hss aD++hsL af)) (N:Nat) (r:Int) (rs:List (List am.T)) (tl:DLb):D En GT noC Tryz.f121.ntmps iN .leaf _ (keys af) (sA am (aN a) (aI a) N r rs tl) pA (fun _ _=>none)=some (N,(N:Int),IntKind.wrap .i64 (r+1)):=by kernel_rfl
theorem mW (a:HT (Sh.hss aD++hsL af)) (N:Nat) (r:Int) (nn:Nat) (dds:List DV) (cont:List am.T):D En GT noC Tryz.f121.ntmps iR .leaf _ (keys af) (s3 am (aN a) (aI a) N r nn dds cont) (pI1 am) (fun _ _=>none)=some ((N,(N:Int),r),(nn,(nn:Int),0)):=by kernel_rfl
theorem mV (a:HT (Sh.hss aD++hsL af)) (N:Nat) (r:Int) (nn:Nat) (k:Int) (dds:List DV) (cont:List am.T):D En GT noC Tryz.f121.ntmps iQ .leaf _ (keys af) (sI am (aN a) (aI a) N r nn k dds cont) (pI2 am) (fun _ _=>none)=some (((N,(N:Int),r),(nn,(nn:Int),k)),decide (k<nn)):=by kernel_rfl
theorem mU (a:HT (Sh.hss aD++hsL af)) (N:Nat) (r:Int) (nn:Nat) (k:Int) (dds:List DV) (cont:List am.T):D En GT noC Tryz.f121.ntmps iP .leaf _ (keys af) (sI am (aN a) (aI a) N r nn k dds cont) (pI3 am) (fun _ _=>none)=req (0<=k/\k<nn) ((cont[k.toNat]?).bind fun _=>some (((N,(N:Int),r),(nn,(nn:Int),k)),cont.set k.toNat jp)):=by kernel_rfl
theorem mT (a:HT (Sh.hss aD++hsL af)) (N:Nat) (r:Int) (nn:Nat) (k:Int) (dds:List DV) (cont:List am.T):D En GT noC Tryz.f121.ntmps iO .leaf _ (keys af) (sI am (aN a) (aI a) N r nn k dds cont) (pI1 am) (fun _ _=>none)=some ((N,(N:Int),r),(nn,(nn:Int),IntKind.wrap .i64 (k+1))):=by kernel_rfl
theorem m7 (a:HT (Sh.hss aD++hsL af)):DIA En GT noC Tryz.f121.ntmps Tryz.f121.results.toList iV .leaf aD af iU am jp a=dk a.1 a.2.2.2.2.2.2.2.2.2.2.2.2.2.2.2.2.2.2.2.2.2.2.2.2.2.2.2.2.2.1:=by kernel_rfl
theorem m5:cK Tryz.f121 = .seq (.seq iT (.block 0 (.loop (.seq iS (.seq (.cond (.tmp 12) .skip (.exit 0)) (.seq (.block 1 (.seq aM (.seq iR (.block 2 (.loop (.seq iQ (.seq (.cond (.tmp 18) .skip (.exit 2)) (.seq (.block 3 iP) iO)))))))) iN)))))) iV:=by kernel_rfl
theorem m6:aM = .region 2 #[⟨some 13,.indexAddr 25 (.tmp 9) (.tmp 11),(opAt aM 0).type,(opAt aM 0).pos,(opAt aM 0).after,none⟩,⟨some 14,.load 75 (.tmp 13),(opAt aM 1).type,(opAt aM 1).pos,(opAt aM 1).after,none⟩,⟨some 3,.assign (.tmp 14),(opAt aM 2).type,(opAt aM 2).pos,(opAt aM 2).after,none⟩] false:=by kernel_rfl
theorem mZ (a:HT (Sh.hss aD++hsL af)):(keys af).elem rlab=false/\(keys af).elem dN=false/\lget (aI a) 1=none/\lget (aI a) rlab=none/\othC (.cs (aN a))=true/\(aI a).all (fun p=>othC p.2)=true/\(((0,.cs (aN a))::(1,.ls (.tf 1 am) a.2.2.2.2.2.2.2.2.2.2.2.2.2.2.2.2.2.2.2.2.2.2.2.2.2.2.2.2.2.1)::aI a:DLb).all fun p=>kK (fun l=>(keys ((0,.cs (aN a))::(1,.ls (.tf 1 am) a.2.2.2.2.2.2.2.2.2.2.2.2.2.2.2.2.2.2.2.2.2.2.2.2.2.2.2.2.2.1)::aI a:DLb)).elem l) p.2)=true:=
 ⟨by kernel_rfl,by kernel_rfl,by kernel_rfl,by kernel_rfl,by kernel_rfl,by kernel_rfl,by kernel_rfl⟩
theorem mR:En.P.underlying 25=some (.slice 75):=by kernel_rfl
theorem mQ:(En.P.info? 75).map (fun i=>i.size)=some 1:=by kernel_rfl
theorem mP:iy En.P 75=some false:=by kernel_rfl
def nu:ICon En:=⟨121,aD,af,iU,fun a=>dk a.1 a.2.2.2.2.2.2.2.2.2.2.2.2.2.2.2.2.2.2.2.2.2.2.2.2.2.2.2.2.2.1,Tryz.call121,fun a v h=>Ia rfl cX rfl iC Tryz.func121 rfl ⟨rfl,rfl,rfl,rfl⟩ m5 m6 mR mQ mP (by decide) rfl (nt a) rfl (mZ a) (mY a) (mX a) (mS a) (mW a) (mV a) (fun N r nn k dds cont h0 h1 h2=>(mU a N r nn k dds cont).trans (by rw [ac ⟨h0,h1⟩,List.getElem?_eq_getElem (by omega)];rfl)) (mT a) ((m7 a).trans h)⟩
theorem wb (a:HT (Sh.hss [.h (.tl (.tp (.ti .i32) aa)),.h (.ti .i64)])):DFF En GT (cl [l9,iq] [cJ,fv]) Tryz.f151.ntmps Tryz.f151.results.toList (cK Tryz.f151) (.seq .leaf (.seq (.join ⟨[(16,.h .tb)],[6,7,8,9,10,11,12,13,14,15],[],[],[]⟩ (.reg [(1,{con:=0}),(3,{split:=true}),(7,{split:=true}),(10,{split:=true})]) .leaf) (.seq (.reg [(1,{io:=some 0})]) (.seq (.reg [(2,{io:=some 1})]) (.seq (.reg [(13,{con:=1})]) .leaf))))) [.h (.tl (.tp (.ti .i32) aa)),.h (.ti .i64)] 1 (.tp (.ti .i32) aa) a=jU a.1 a.2:=by kernel_rfl
def xK:PCon En:=⟨151,[.h (.tl (.tp (.ti .i32) aa)),.h (.ti .i64)],.h (.tf 1 (.tp (.ti .i32) aa)),fun a=>jU a.1 a.2,Tryz.call151,fun a v h=>kC rfl cX rfl iC Tryz.func151 rfl rfl (by decide) ((wb a).trans h)⟩
def xU:=mkI 139 Tryz.f139 Tryz.call139 Tryz.func139 (cl [mf,jx,xK] [kw]) (sl (.seq (jb 34 (rg 12 22) (.reg [(1,cn 0),(3,sp),(5,cn 1),(8,sp),(10,cn 1),(13,sp),(17,sp),(22,sp)]) .leaf) (.seq (.reg [(3,oi 0)]) (.seq (sl (.blk (.loop ⟨[(43,hi)],([10,11]++rg 44 14),[(1002,.ls (.tf 1 (.tp (.ti .i32) aa)))],[],[]⟩ [(.exit 0,⟨[],([10,11]++rg 43 15),[(1002,.ls (.tf 1 (.tp (.ti .i32) aa)))],[],[]⟩)] (js 44 [] 0 (sl (.join ⟨[],([10,11]++rg 45 12),[(1002,.ls (.tf 1 (.tp (.ti .i32) aa)))],[],[]⟩ (.blk (sl (jc 50 [48,49] 2 (.reg [(4,cn 2)]) .leaf))) .leaf)))))) .leaf)))) [.rww 0 1,hi,hi,hi] [(0,.ls (.tf 1 (.tp (.ti .i32) aa))),(1000,.cs []),(1001,.cs [])] ⟨[(0,.rww 1 1)],[],[(1,.ls (.tf 1 (.tp (.ti .i32) aa)))],[],[]⟩ (u4 iu)
theorem pt (a:HT (Sh.hss [.h (.tl (.tp (.ti .i32) aa)),.h (.ti .i64)])):DFF En GT (cl [si] []) Tryz.f97.ntmps Tryz.f97.results.toList (cK Tryz.f97) (.seq .leaf (.seq (.join ⟨[(10,.h .tb)],[9],[],[],[]⟩ (.reg [(1,{split:=true})]) .leaf) (.seq (.reg [(5,{con:=0})]) (.seq (.join ⟨[(26,.h .tb)],[21,22,23,24,25],[],[],[]⟩ (.reg [(2,{split:=true}),(5,{split:=true})]) .leaf) (.seq .leaf (.seq .leaf (.seq (.blk (.loop ⟨[(8,.h (.ti .i64))],[34,35,36,37,38,39,40,41,42,43,44,45,46],[(0,.ls (.tp (.ti .i32) aa))],[],[]⟩ [(.exit 0,⟨[],[8,34,35,36,37,38,39,40,41,42,43,44,45,46],[(0,.ls (.tp (.ti .i32) aa))],[],[]⟩)] (.seq (.join ⟨[(37,.h .tb)],[34,35,36],[],[],[]⟩ (.reg [(3,{split:=true})]) .leaf) .leaf))) .leaf))))))) [.h (.tl (.tp (.ti .i32) aa)),.h (.ti .i64)] 2 (.tp (.ti .i32) aa) a=jD a.1 a.2:=by kernel_rfl
def qH:PCon En:=⟨97,[.h (.tl (.tp (.ti .i32) aa)),.h (.ti .i64)],.h (.tf 2 (.tp (.ti .i32) aa)),fun a=>jD a.1 a.2,Tryz.call97,fun a v h=>kC rfl cX rfl iC Tryz.func97 rfl rfl (by decide) ((pt a).trans h)⟩
theorem tN (a:HT (Sh.hss [.h (.ti .i64),.st bg])):DFF En GT (cl [ev,lH,qH] []) Tryz.f52.ntmps Tryz.f52.results.toList (cK Tryz.f52) (.seq .leaf (.seq (.join ⟨[(15,.h .tb)],[5,6,7,8,9,10,11,12,13,14],[],[],[]⟩ (.reg [(2,{split:=true}),(6,{split:=true}),(8,{con:=0}),(10,{split:=true})]) .leaf) (.seq (.reg [(1,{con:=1}),(4,{con:=2})]) .leaf))) [.h (.ti .i64),.st bg] 2 (.tp (.ti .i32) aa) a=ma a.1 a.2:=by kernel_rfl
def uY:PCon En:=⟨52,[.h (.ti .i64),.st bg],.h (.tf 2 (.tp (.ti .i32) aa)),fun a=>ma a.1 a.2,Tryz.call52,fun a v h=>kC rfl cX rfl iC Tryz.func52 rfl rfl (by decide) ((tN a).trans h)⟩
def u9:=mkI 20 Tryz.f20 Tryz.call20 Tryz.func20 (cl [jx,ev,uY] []) (sl (.seq (jb 21 (rg 9 12) (.reg [(1,cn 0),(3,sp),(5,cn 0),(8,sp),(10,cn 1),(12,sp)]) .leaf) (.seq (.reg [(1,{fq:=2})]) (.seq (sl (.blk (.loop ⟨[(26,hi)],([8]++rg 27 9),[(1003,.ls (.tf 2 (.tp (.ti .i32) aa)))],[],[]⟩ [(.exit 0,⟨[],([8]++rg 26 10),[(1003,.ls (.tf 2 (.tp (.ti .i32) aa)))],[],[]⟩)] (js 27 [] 0 (sl (.seq (.blk (sl (.reg [(4,cn 2)]))) .leaf)))))) .leaf)))) [hi,hi,hP] [(1000,.cs []),(1001,.cs [])] ⟨[(0,.rww 0 1)],[],[(0,.ls (.tf 2 (.tp (.ti .i32) aa)))],[],[]⟩ (u3 pV)
theorem wc (a:HT (Sh.hss [.h (.tl (.tp (.ti .i32) aa)),.h (.ti .i64)])):DFF En GT (cl [l9,iq] [cJ,fv]) Tryz.f151.ntmps Tryz.f151.results.toList (cK Tryz.f151) (.seq .leaf (.seq (.join ⟨[(16,.h .tb)],[6,7,8,9,10,11,12,13,14,15],[],[],[]⟩ (.reg [(1,{con:=0}),(3,{split:=true}),(7,{split:=true}),(10,{split:=true})]) .leaf) (.seq (.reg [(1,{io:=some 0})]) (.seq (.reg [(2,{io:=some 1})]) (.seq (.reg [(13,{con:=1})]) .leaf))))) [.h (.tl (.tp (.ti .i32) aa)),.h (.ti .i64)] 2 (.tp (.ti .i32) aa) a=oN a.1 a.2:=by kernel_rfl
def xL:PCon En:=⟨151,[.h (.tl (.tp (.ti .i32) aa)),.h (.ti .i64)],.h (.tf 2 (.tp (.ti .i32) aa)),fun a=>oN a.1 a.2,Tryz.call151,fun a v h=>kC rfl cX rfl iC Tryz.func151 rfl rfl (by decide) ((wc a).trans h)⟩
def xT:=mkI 139 Tryz.f139 Tryz.call139 Tryz.func139 (cl [mf,jx,xL] [u9]) (sl (.seq (jb 34 (rg 12 22) (.reg [(1,cn 0),(3,sp),(5,cn 1),(8,sp),(10,cn 1),(13,sp),(17,sp),(22,sp)]) .leaf) (.seq (.reg [(3,oi 0)]) (.seq (sl (.blk (.loop ⟨[(43,hi)],([10,11]++rg 44 14),[(1002,.ls (.tf 2 (.tp (.ti .i32) aa)))],[],[]⟩ [(.exit 0,⟨[],([10,11]++rg 43 15),[(1002,.ls (.tf 2 (.tp (.ti .i32) aa)))],[],[]⟩)] (js 44 [] 0 (sl (.join ⟨[],([10,11]++rg 45 12),[(1002,.ls (.tf 2 (.tp (.ti .i32) aa)))],[],[]⟩ (.blk (sl (jc 50 [48,49] 2 (.reg [(4,cn 2)]) .leaf))) .leaf)))))) .leaf)))) [.rww 0 1,hi,hi,hi] [(0,.ls (.tf 2 (.tp (.ti .i32) aa))),(1000,.cs []),(1001,.cs [])] ⟨[(0,.rww 1 1)],[],[(1,.ls (.tf 2 (.tp (.ti .i32) aa)))],[],[]⟩ (u4 oQ)
def mN:=mkI 122 Tryz.f122 Tryz.call122 Tryz.func122 (cl [sD] [xU,xT]) (sl (.seq (.reg [(9,oi 0)]) (.join ⟨[],([7]++rg 30 38),[(4,.ls (.tf 2 (.tp (.ti .i32) aa)))],[(0,3,.rww 4 1)],[2]⟩ (jc 36 (rg 30 6) 6 (sl (.reg [(13,oi 1)])) .leaf) (.join ⟨[],(rg 68 23),[],[(0,27,hu),(0,28,hu),(0,29,hu),(0,30,hu)],[]⟩ (jc 74 (rg 68 6) 6 (.reg [(12,cn 0)]) .leaf) .leaf)))) [.ptr 0 0,hi,hi] [(0,.cs [hi,hi,.rww 1 1,.rww 2 1,hi,hi,hb,hi,hi,hi,hi,hi,hi,hi,hi,hi,hi,hi,hb,hb,hi,hi,hi,hi,hi,hb,hb,hu,hu,hu,hu,.rww 3 1]),(1,.ls (.tf 1 (.tp (.ti .i32) aa))),(2,.ls (.tf 2 (.tp (.ti .i32) aa))),(3,.ls (.ti .i32)),(1000,.cs []),(1001,.cs [])] ⟨[(0,.tup [])],[],[(4,.ls (.tf 1 (.tp (.ti .i32) aa))),(5,.ls (.tf 2 (.tp (.ti .i32) aa)))],[(0,0,hi),(0,1,hi),(0,2,.rww 4 1),(0,3,.rww 5 1),(0,4,hi),(0,5,hi),(0,10,.k (.int .i64 0)),(0,11,hi),(0,27,hu),(0,28,hu),(0,29,hu),(0,30,hu)],[2]⟩ (fun a=>d9 a.1 a.2.1 a.2.2.1 a.2.2.2.1 a.2.2.2.2.1 a.2.2.2.2.2.1 a.2.2.2.2.2.2.2.2.2.2.2.2.2.1 a.2.2.2.2.2.2.2.2.2.2.2.2.2.2.2.2.2.2.2.2.2.2.2.2.2.2.2.1 a.2.2.2.2.2.2.2.2.2.2.2.2.2.2.2.2.2.2.2.2.2.2.2.2.2.2.2.2.1 a.2.2.2.2.2.2.2.2.2.2.2.2.2.2.2.2.2.2.2.2.2.2.2.2.2.2.2.2.2.1 a.2.2.2.2.2.2.2.2.2.2.2.2.2.2.2.2.2.2.2.2.2.2.2.2.2.2.2.2.2.2.1 a.2.2.2.2.2.2.2.2.2.2.2.2.2.2.2.2.2.2.2.2.2.2.2.2.2.2.2.2.2.2.2.1 a.2.2.2.2.2.2.2.2.2.2.2.2.2.2.2.2.2.2.2.2.2.2.2.2.2.2.2.2.2.2.2.2.1)
def ox:=mkI 66 Tryz.f66 Tryz.call66 Tryz.func66 (cl [mD,tL,nQ,er] [nr,fL,gj,nu,mN]) (sl (sl (sl (.blk (jc 46 [47] 1 (.reg [(22,oi 0)]) (jc 71 [72] 1 (.reg [(6,oi 0)]) (jc 80 [81] 1 (.reg [(23,cn 0)]) (jc 107 [108] 1 (.reg [(23,cn 1)]) (jc 134 [135] 1 (.reg [(30,cn 2)]) (jb 168 [169,170] (jc 168 [169] 1 .leaf (rs 1)) (.cond (sl (.seq (jb 197 (rg 174 23) (.reg [(11,sp),(23,sp)]) .leaf) (.join ⟨[(7,hi)],(rg 198 5),[],[],[]⟩ (js 200 [198,199] 2 .leaf) (.seq (.reg [(7,oi 1)]) .leaf)))) (jc 215 [216] 1 (.reg [(8,oi 1)]) (jc 226 [227] 1 (jb 247 (rg 228 19) (.reg [(3,sp),(10,sp),(19,sp)]) (.cond (sl (.reg [(1,oi 2)])) .leaf)) (jc 262 [263] 1 (.reg [(1,{io:=some 3,wk:=true})]) (jc 266 [267] 1 (.reg [(3,cn 3),(6,cn 3),(7,oi 4)]) .leaf))))))))))))))) [.ptr 0 0,hC] [(0,.cs [hi,hi,.rww 1 1,.rww 2 1,hi,hi,hb,hi,hi,hi,hi,hi,hi,hi,hi,hi,hi,hi,hb,hb,hi,hi,hi,hi,hi,hb,hb,hu,hu,hu,hu,.rww 3 1]),(1,.ls (.tf 1 (.tp (.ti .i32) aa))),(2,.ls (.tf 2 (.tp (.ti .i32) aa))),(3,.ls (.ti .i32)),(1000,.cs [])] ⟨[(0,.tup [])],[],[(4,.ls (.tf 1 (.tp (.ti .i32) aa))),(5,.ls (.tf 2 (.tp (.ti .i32) aa)))],[(0,0,hi),(0,1,hi),(0,2,.rww 4 1),(0,3,.rww 5 1),(0,4,hi),(0,5,hi),(0,6,hb),(0,10,hi),(0,11,hi),(0,27,hu),(0,28,hu),(0,29,hu),(0,30,hu)],[1,2]⟩ (fun a=>dJ a.1 a.2.1 a.2.2.1 a.2.2.2.1 a.2.2.2.2.1 a.2.2.2.2.2.1 a.2.2.2.2.2.2.1 a.2.2.2.2.2.2.2.1 a.2.2.2.2.2.2.2.2.1 a.2.2.2.2.2.2.2.2.2.1 a.2.2.2.2.2.2.2.2.2.2.1 a.2.2.2.2.2.2.2.2.2.2.2.1 a.2.2.2.2.2.2.2.2.2.2.2.2.1 a.2.2.2.2.2.2.2.2.2.2.2.2.2.2.2.2.2.2.2.2.2.2.2.2.2.2.1 a.2.2.2.2.2.2.2.2.2.2.2.2.2.2.2.2.2.2.2.2.2.2.2.2.2.2.2.1 a.2.2.2.2.2.2.2.2.2.2.2.2.2.2.2.2.2.2.2.2.2.2.2.2.2.2.2.2.1 a.2.2.2.2.2.2.2.2.2.2.2.2.2.2.2.2.2.2.2.2.2.2.2.2.2.2.2.2.2.1 a.2.2.2.2.2.2.2.2.2.2.2.2.2.2.2.2.2.2.2.2.2.2.2.2.2.2.2.2.2.2.1 a.2.2.2.2.2.2.2.2.2.2.2.2.2.2.2.2.2.2.2.2.2.2.2.2.2.2.2.2.2.2.2.1 a.2.2.2.2.2.2.2.2.2.2.2.2.2.2.2.2.2.2.2.2.2.2.2.2.2.2.2.2.2.2.2.2) [1001]
def mO:=mkI 29 Tryz.f29 Tryz.call29 Tryz.func29 (cl [Ci,ky,wT,Ak] [np,jH,ow,iw,uF,ov,ox]) (sl (sl (.blk (jc 26 [27] 1 (.reg [(3,oi 0)]) (jc 32 [33] 1 (.reg [(8,cn 0)]) (jc 46 [47] 1 (sl (sl (.blk (.loop ⟨[(55,hi)],([5]++rg 56 28),[(4,.ls (.ti .i32))],[(0,31,.rww 4 1)],[]⟩ [(.exit 1,⟨[],([5]++rg 55 29),[(4,.ls (.ti .i32))],[(0,31,.rww 4 1)],[]⟩)] (js 56 [] 0 (sl (.join ⟨[],([5]++rg 57 26),[(5,.ls (.ti .i32))],[(0,31,.rww 5 1)],[4]⟩ (.blk (sl (jb 70 (rg 59 11) (.reg [(1,cn 1),(3,sp),(11,sp)]) .leaf))) .leaf))))))) (jc 84 [85] 1 (sl (.blk (jc 88 [89] 1 (.reg [(11,cn 2)]) (jc 105 [106] 1 (.reg [(11,cn 3)]) (js 122 [123] 1 .leaf))))) (jc 129 [130] 1 (.reg [(1,oi 1)]) (jc 133 [134] 1 (.reg [(6,{io:=some 2,wk:=true})]) (jc 142 [143] 1 (.reg [(1,oi 3)]) (jc 146 [147] 1 (.reg [(11,oi 4)]) (jb 15 (rg 8 7) (.reg [(3,sp),(7,sp)]) (.cond (sl (.seq (.reg [(2,oi 5)]) (.reg [(2,{io:=some 6,wk:=true})]))) .leaf))))))))))))) [.ptr 0 0,hC] [(0,.cs [hi,hi,.rww 1 1,.rww 2 1,hi,hi,hb,hi,hi,hi,hi,hi,hi,hi,hi,hi,hi,hi,hb,hb,hi,hi,hi,hi,hi,hb,hb,hu,hu,hu,hu,.rww 3 1]),(1,.ls (.tf 1 (.tp (.ti .i32) aa))),(2,.ls (.tf 2 (.tp (.ti .i32) aa))),(3,.ls (.ti .i32)),(1000,.cs [])] ⟨[(0,.tup [])],[],[(4,.ls (.tf 1 (.tp (.ti .i32) aa))),(5,.ls (.tf 2 (.tp (.ti .i32) aa))),(6,.ls (.ti .i32))],[(0,0,hi),(0,1,hi),(0,2,.rww 4 1),(0,3,.rww 5 1),(0,4,hi),(0,5,hi),(0,6,hb),(0,7,hi),(0,8,hi),(0,9,hi),(0,10,hi),(0,11,hi),(0,12,hi),(0,13,hi),(0,14,hi),(0,15,hi),(0,16,hi),(0,17,hi),(0,18,hb),(0,19,hb),(0,20,hi),(0,21,hi),(0,22,hi),(0,23,hi),(0,24,hi),(0,25,hb),(0,26,hb),(0,27,hu),(0,28,hu),(0,29,hu),(0,30,hu),(0,31,.rww 6 1)],[1,2,3]⟩ (u33 cW) [1001]
def pD:=mkP 11 Tryz.f11 Tryz.call11 Tryz.func11 (cl [Ao,er] [qO,qP,ru,mO]) (sl (.seq (jb 10 [8,9] (.reg [(1,cn 0),(2,sp)]) .leaf) (sl (.seq (.reg [(5,oi 0),(8,oi 1),(11,oi 2)]) (.seq (sl (.blk (.loop ⟨[(38,hi)],([7,20,23,26]++rg 39 23),[(0,.ls (.tf 1 (.tp (.ti .i32) aa))),(1,.ls (.tf 2 (.tp (.ti .i32) aa))),(2,.ls (.ti .i32))],[(1004,0,hi),(1004,1,hi),(1004,2,.rww 0 1),(1004,3,.rww 1 1),(1004,4,hi),(1004,5,hi),(1004,6,hb),(1004,7,hi),(1004,8,hi),(1004,9,hi),(1004,10,hi),(1004,11,hi),(1004,12,hi),(1004,13,hi),(1004,14,hi),(1004,15,hi),(1004,16,hi),(1004,17,hi),(1004,18,hb),(1004,19,hb),(1004,20,hi),(1004,21,hi),(1004,22,hi),(1004,23,hi),(1004,24,hi),(1004,25,hb),(1004,26,hb),(1004,27,hu),(1004,28,hu),(1004,29,hu),(1004,30,hu),(1004,31,.rww 2 1)],[1005,1006,1007]⟩ [(.exit 0,⟨[],([7,20,23,26]++rg 38 24),[(0,.ls (.tf 1 (.tp (.ti .i32) aa))),(1,.ls (.tf 2 (.tp (.ti .i32) aa))),(2,.ls (.ti .i32))],[(1004,0,hi),(1004,1,hi),(1004,2,.rww 0 1),(1004,3,.rww 1 1),(1004,4,hi),(1004,5,hi),(1004,6,hb),(1004,7,hi),(1004,8,hi),(1004,9,hi),(1004,10,hi),(1004,11,hi),(1004,12,hi),(1004,13,hi),(1004,14,hi),(1004,15,hi),(1004,16,hi),(1004,17,hi),(1004,18,hb),(1004,19,hb),(1004,20,hi),(1004,21,hi),(1004,22,hi),(1004,23,hi),(1004,24,hi),(1004,25,hb),(1004,26,hb),(1004,27,hu),(1004,28,hu),(1004,29,hu),(1004,30,hu),(1004,31,.rww 2 1)],[1005,1006,1007]⟩)] (js 39 [] 0 (sl (.seq (.blk (sl (.join ⟨[],(rg 42 16),[],[(1008,1,hi),(1008,2,hi)],[]⟩ (jb 49 (rg 42 7) (.reg [(3,sp),(7,sp)]) (.cond (.reg [(2,cn 1),(5,cn 1)]) .leaf)) (.reg [(2,{io:=some 3,wk:=true})])))) .leaf)))))) .leaf))))) [hS,.h (.tl dP)] hS (u2 gI) [1000,1001]
def rJ:=mkP 18 Tryz.f18 Tryz.call18 Tryz.func18 (cl [sL,pD] []) (sl (.seq (.reg [(2,cn 0)]) (.seq (js 17 [16] 1 .leaf) (.seq (sl (.blk (.loop ⟨[(9,hi)],(rg 19 14),[],(sF 1),[]⟩ [(.exit 0,⟨[],([9]++rg 19 14),[],(sF 1),[]⟩)] (.seq (js 22 [19,20,21] 3 .leaf) (.seq (.blk (.reg [(7,{fz:=[(31,dP)],con:=1})])) .leaf))))) .leaf)))) [hi,hi,.h (.tl (.ti .i32))] hS (u3 kr)
def tg:=mkP 50 Tryz.f50 Tryz.call50 Tryz.func50 noC (sl (sl (.seq (.blk (.loop ⟨[(3,hi)],(rg 9 32),[],[],[]⟩ [(.exit 0,⟨[(3,hi)],(rg 9 32),[],[],[]⟩)] (.seq (jb 38 (rg 9 29) (.reg [(2,sp),(11,sp),(20,sp),(29,sp)]) .leaf) .leaf))) (sl (.seq (sl (.blk (.loop ⟨[(4,.rww 0 1),(5,hi)],([6]++rg 41 41),[(0,.ls (.ti .i32))],[],[]⟩ [(.exit 2,⟨[(4,.rww 0 1)],([5,6]++rg 41 41),[(0,.ls (.ti .i32))],[],[]⟩)] (.seq (js 43 [41,42] 2 .leaf) (.join ⟨[(4,.rww 1 1)],([6]++rg 46 36),[(1,.ls (.ti .i32))],[],[0]⟩ (.blk (.seq (js 51 (rg 46 5) 5 .leaf) (sl (sl (.blk (.loop ⟨[(4,.rww 3 1),(6,hi)],(rg 59 23),[(3,.ls (.ti .i32))],[],[2]⟩ [(.exit 4,⟨[(4,.rww 3 1)],([6]++rg 59 23),[(3,.ls (.ti .i32))],[],[2]⟩)] (.seq (js 61 [60] 1 .leaf) (.join ⟨[(4,.rww 4 1)],(rg 64 18),[(4,.ls (.ti .i32))],[],[3]⟩ (.blk (jb 71 (rg 64 7) (.reg [(5,{sel:=true}),(7,sp)]) (.cond (.reg [(6,{sel:=true})]) .leaf))) .leaf)))))))) .leaf))))) .leaf))))) [hl] (.h (.tl (.ti .i32))) o8
def rK:=mkP 19 Tryz.f19 Tryz.call19 Tryz.func19 (cl [tg] []) (sl (.seq (jb 35 (rg 12 23) (.reg [(6,sp),(12,sp),(18,sp),(23,sp)]) .leaf) (.seq (sl (.blk (.loop ⟨[(11,hi)],(rg 36 18),[],[],[]⟩ [(.ret,⟨[(10,.k (.bool false))],([11]++rg 36 18),[],[],[]⟩),(.exit 0,⟨[],([11]++rg 36 18),[],[],[]⟩)] (.seq (js 39 [36,37,38] 3 .leaf) (.seq (.blk (jb 53 (rg 42 11) (.reg [(5,cn 0),(11,sp)]) .leaf)) .leaf))))) .leaf))) [hS,hi,hi,hb,.h (.tl .ts)] hb (u5 eD)
theorem qT (a:HT (Sh.hss [])):DF En GT (cl [rJ,pD,rK] []) Tryz.f5.ntmps Tryz.f5.results.toList (cK Tryz.f5) (.seq .leaf (.seq (.reg [(1,{fz:=[(6,.ti .i32)],con:=0})]) (.seq (.reg [(3,{fz:=[(10,dP)],con:=1})]) (.seq (.reg [(3,{fz:=[(14,dP)],con:=1})]) (.seq (.reg [(1,{fz:=[(16,.ti .i32)],con:=0})]) (.seq (.reg [(3,{fz:=[(20,dP)],con:=1})]) (.seq (.reg [(2,{con:=2}),(3,{split:=true}),(6,{con:=2}),(8,{split:=true}),(11,{con:=2}),(13,{split:=true}),(16,{con:=2}),(18,{split:=true}),(21,{con:=2})]) .leaf))))))) [] (.h .tb) a=g8:=by kernel_rfl
def rL:PCon En:=⟨5,[],.h .tb,fun a=>kt,Tryz.call5,fun a v h=>J6 rfl cX rfl iC Tryz.func5 rfl rfl (by decide) ((qT a).trans (pK  h))⟩
def rM:=mkP 6 Tryz.f6 Tryz.call6 Tryz.func6 noC (sl (.seq (jb 27 (rg 9 18) (.reg [(2,sp),(6,sp),(9,sp),(14,sp),(18,sp)]) .leaf) (sl (.seq (sl (.blk (.loop ⟨[(7,hi),(8,hi)],(rg 28 64),[],[],[]⟩ [(.ret,⟨[(6,.k (.bool true))],([7,8]++rg 28 64),[],[],[]⟩),(.exit 0,⟨[(7,hi)],([8]++rg 28 64),[],[],[]⟩)] (.seq (js 31 [28,29,30] 3 .leaf) (.seq (.blk (.seq (jb 73 (rg 34 39) (.reg [(7,sp),(16,sp),(23,sp),(30,sp),(39,sp)]) .leaf) (.join ⟨[(7,hi)],(rg 74 16),[],[],[]⟩ (jb 87 (rg 74 13) (.reg [(6,sp),(13,sp)]) .leaf) .leaf))) .leaf))))) .leaf)))) [hi,hi,.h (.tl dP)] hb (u3 il)
def mv:=mkP 8 Tryz.f8 Tryz.call8 Tryz.func8 noC (sl (.seq (rs 2) .leaf)) [hi] hb cH
def tj:=mkP 54 Tryz.f54 Tryz.call54 Tryz.func54 noC (sl (.seq (js 10 (rg 6 4) 4 .leaf) (.seq (sl (.blk (.loop ⟨[(5,hi)],(rg 11 15),[],[],[]⟩ [(.ret,⟨[(4,.k (.bool false))],([5]++rg 11 15),[],[],[]⟩),(.exit 0,⟨[],([5]++rg 11 15),[],[],[]⟩)] (.seq (js 14 [11,12,13] 3 .leaf) (.seq (.blk (js 25 (rg 17 8) 8 .leaf)) .leaf))))) .leaf))) [hl,hl] hb (u2 lm)
def th:=mkP 22 Tryz.f22 Tryz.call22 Tryz.func22 (cl [tj] []) (sl (.seq (js 10 (rg 6 4) 4 .leaf) (.seq (sl (.blk (.loop ⟨[(5,hi)],(rg 11 16),[],[],[]⟩ [(.ret,⟨[(4,.k (.bool false))],([5]++rg 11 16),[],[],[]⟩),(.exit 0,⟨[],([5]++rg 11 16),[],[],[]⟩)] (.seq (js 14 [11,12,13] 3 .leaf) (.seq (.blk (jb 26 (rg 17 9) (.reg [(8,cn 0),(9,sp)]) .leaf)) .leaf))))) .leaf))) [hg,hg] hb (u2 gC)
def tw:=mkP 23 Tryz.f23 Tryz.call23 Tryz.func23 noC (sl (.seq (js 10 (rg 6 4) 4 .leaf) (.seq (sl (.blk (.loop ⟨[(5,hi)],(rg 11 15),[],[],[]⟩ [(.ret,⟨[(4,.k (.bool false))],([5]++rg 11 15),[],[],[]⟩),(.exit 0,⟨[],([5]++rg 11 15),[],[],[]⟩)] (.seq (js 14 [11,12,13] 3 .leaf) (.seq (.blk (js 25 (rg 17 8) 8 .leaf)) .leaf))))) .leaf))) [.h (.tl (.ti .i32)),.h (.tl (.ti .i32))] hb (u2 ln)
def s9:=mkP 9 Tryz.f9 Tryz.call9 Tryz.func9 (cl [th,tw] []) (sl (.seq (jb 72 (rg 5 67) (.reg [(5,sp),(12,sp),(19,sp),(26,sp),(33,sp),(40,sp),(47,sp),(54,sp),(61,sp),(67,sp)]) .leaf) (.seq (.reg [(7,sp),(16,sp),(21,cn 0),(23,sp),(28,cn 0),(30,sp),(35,cn 1)]) .leaf))) [hS,hS] hb (u2 dc)
def gn:=mkP 99 Tryz.f99 Tryz.call99 Tryz.func99 noC .leaf [hP] hc cR
def cZ:=mkP 55 Tryz.f55 Tryz.call55 Tryz.func55 (cl [gn] []) (sl (sl (.seq (sl (.blk (.loop ⟨[(5,.rww 1 7),(6,hi)],(rg 7 10),[(1,.ls (.tp (.ti .i32) aa))],[],[]⟩ [(.exit 0,⟨[(5,.rww 1 7)],(rg 6 11),[(1,.ls (.tp (.ti .i32) aa))],[],[]⟩)] (.seq (js 9 [7,8] 2 .leaf) (.seq (.blk (.reg [(2,cn 0)])) .leaf))))) .leaf))) [hi,hP] hl (u2 bU)
def l0:=mkP 24 Tryz.f24 Tryz.call24 Tryz.func24 (cl [cZ] []) (sl (sl (.seq (sl (.blk (.loop ⟨[(7,.rww 1 1),(8,hi)],(rg 9 11),[(1,.ls (.tl (.tp (.ti .i32) aa)))],[],[]⟩ [(.exit 0,⟨[(7,.rww 1 1)],(rg 8 12),[(1,.ls (.tl (.tp (.ti .i32) aa)))],[],[]⟩)] (.seq (js 11 [9,10] 2 .leaf) (.seq (.blk (.reg [(3,cn 0)])) .leaf))))) .leaf))) [hi,hi,hP] hg (u3 ex)
def ll:=mkP 78 Tryz.f78 Tryz.call78 Tryz.func78 noC (sl (.seq (jb 12 (rg 7 5) (.reg [(2,sp),(5,sp)]) .leaf) (.join ⟨[(5,hu)],(rg 13 4),[],[],[]⟩ (.reg [(2,{sel:=true})]) (.seq (sl (.blk (.loop ⟨[(5,hu),(6,hi)],(rg 17 8),[],[],[]⟩ [(.exit 0,⟨[(5,hu)],([6]++rg 17 8),[],[],[]⟩)] (.seq (js 20 [17,18,19] 3 .leaf) .leaf)))) .leaf)))) [hT,hi] hb (u2 gJ)
def mu:=mkP 35 Tryz.f35 Tryz.call35 Tryz.func35 (cl [ll] []) (sl (.seq (jb 21 (rg 9 12) (.reg [(2,sp),(6,sp),(9,cn 0),(12,sp)]) .leaf) (sl (.seq (sl (.blk (.loop ⟨[(7,hu),(8,hi)],(rg 23 8),[],[],[]⟩ [(.exit 0,⟨[(7,hu)],([8]++rg 23 8),[],[],[]⟩)] (.seq (js 26 [23,24,25] 3 .leaf) .leaf)))) (.join ⟨[],(rg 31 19),[],[(0,0,hu),(0,1,hu),(0,2,hu),(0,3,hu)],[]⟩ (jc 31 [] 0 (.reg [(4,{sel:=true}),(8,{sel:=true})]) (.reg [(4,{sel:=true}),(8,{sel:=true})])) .leaf))))) [hT,hi,hb] hT (u3 dY)
def lZ:=mkP 25 Tryz.f25 Tryz.call25 Tryz.func25 (cl [mu] []) (sl (.seq (sl (.blk (.loop ⟨[(7,hi)],(rg 8 20),[],[(0,0,hu),(0,1,hu),(0,2,hu),(0,3,hu)],[]⟩ [(.exit 0,⟨[],(rg 7 21),[],[(0,0,hu),(0,1,hu),(0,2,hu),(0,3,hu)],[]⟩)] (.seq (js 9 [8] 1 .leaf) (.join ⟨[],(rg 12 16),[],[(0,0,hu),(0,1,hu),(0,2,hu),(0,3,hu)],[]⟩ (.blk (jb 24 (rg 12 12) (.reg [(3,sp),(8,sp),(12,sp)]) (.cond (.reg [(2,cn 0)]) .leaf))) .leaf))))) .leaf)) [hT,hi,hi] hT (u3 fX)
def nF:=mkP 10 Tryz.f10 Tryz.call10 Tryz.func10 (cl [l0,lZ] []) (sl (.seq (.reg [(5,cn 0),(10,cn 1)]) .leaf)) [hi,hi] hS (u2 g5)
def cP:=mkP 40 Tryz.f40 Tryz.call40 Tryz.func40 noC .leaf [hS,hi] hb (u2 aW)
def ms:=mkP 68 Tryz.f68 Tryz.call68 Tryz.func68 (cl [cP] []) (sl (.join ⟨[],(rg 7 12),[],[(0,12,hi)],[]⟩ (jb 13 (rg 7 6) (.reg [(2,cn 0),(3,sp),(6,sp)]) .leaf) (.join ⟨[],(rg 19 12),[],[(0,12,hi)],[]⟩ (jb 25 (rg 19 6) (.reg [(2,cn 0),(4,sp),(6,sp)]) .leaf) .leaf))) [hS,hi,hb] hS (u3 db)
def dA:=mkP 31 Tryz.f31 Tryz.call31 Tryz.func31 noC (sl (.seq (js 9 [7,8] 2 .leaf) (.seq (js 13 [11,12] 2 .leaf) .leaf))) [hi,hi,hi] hi (u3 ah)
def mr:=mkP 67 Tryz.f67 Tryz.call67 Tryz.func67 (cl [cP,dA] []) (sl (.join ⟨[],(rg 7 18),[],[(0,4,hi)],[]⟩ (jb 8 [7] (.reg [(1,{split:=true,con:=0})]) (.cond (.reg [(8,cn 1)]) (.reg [(4,cn 1)]))) (.seq (.reg [(4,cn 1)]) .leaf))) [hS,hi,hi] hS (u3 dX)
def mq:=mkP 79 Tryz.f79 Tryz.call79 Tryz.func79 (cl [cP] []) (sl (.seq (jb 4 [3] (.reg [(1,{split:=true,con:=0})]) .leaf) .leaf)) [hS] hi gA
def mo:=mkP 36 Tryz.f36 Tryz.call36 Tryz.func36 (cl [mq,cP] []) (sl (.join ⟨[],(rg 3 15),[],[(0,13,hi),(0,14,hi),(0,15,hi),(0,16,hi),(0,17,hi),(0,18,hb),(0,19,hb),(0,20,hi),(0,21,hi),(0,22,hi),(0,23,hi),(0,24,hi),(0,25,hb),(0,26,hb)],[]⟩ (.reg [(1,cn 0),(9,cn 1),(14,{sel:=true})]) .leaf)) [hS] hS gz
def kV:=mkP 69 Tryz.f69 Tryz.call69 Tryz.func69 (cl [mq,dA,ms] []) (sl (.join ⟨[(3,.ptr 2 0)],(rg 4 5),[(2,.cs [hi,hi,hi,hi,hi,hb,hb])],[],[]⟩ (.reg [(1,cn 0),(3,{sel:=true})]) (.seq (.reg [(5,cn 1)]) (.seq (.reg [(5,cn 1)]) (sl (.seq (.reg [(3,cn 2)]) (.join ⟨[],(rg 30 11),[],[(0,6,hb)],[]⟩ (rs 2) .leaf))))))) [hS] hS eH
def pJ:=mkP 30 Tryz.f30 Tryz.call30 Tryz.func30 (cl [ms,mr,cP,mo,l0,kV] []) (sl (sl (.seq (sl (.blk (.loop ⟨[(7,hb),(8,hi)],(rg 9 9),[],[],[]⟩ [(.exit 0,⟨[(7,hb)],(rg 8 10),[],[],[]⟩)] (.seq (js 10 [9] 1 .leaf) (jb 7 (rg 13 5) (.blk (js 17 (rg 13 4) 4 .leaf)) .leaf))))) (.seq (js 19 [18] 1 .leaf) (.seq (jc 22 [21] 1 (.seq (.reg [(3,cn 0),(4,cn 1)]) .leaf) .leaf) (.seq (jc 29 [28] 1 (.seq (.reg [(3,cn 0)]) .leaf) .leaf) (.seq (jb 38 (rg 34 4) (.reg [(2,cn 2),(4,sp)]) .leaf) (.seq (jc 41 [] 0 (.seq (.reg [(1,cn 3),(3,cn 0)]) (sl (.seq (.reg [(5,cn 4)]) .leaf))) .leaf) (.seq (.reg [(2,cn 0)]) (sl (sl (.seq (.reg [(1,cn 5)]) .leaf)))))))))))) [hS,hi,hb] hS (u3 gl)
def MB:=mkP 77 Tryz.f77 Tryz.call77 Tryz.func77 noC (sl (.seq (rs 3) .leaf)) [hj,hj,hj] hb (u3 aG)
def fu:=mkP 34 Tryz.f34 Tryz.call34 Tryz.func34 (cl [MB] []) (sl (.seq (.blk (jb 3 (rg 4 14) (.reg [(2,sp),(4,cn 0),(6,sp),(8,cn 0),(10,sp),(14,sp)]) (.cond .leaf (jb 18 (rg 19 22) (.reg [(1,cn 0),(2,sp),(4,cn 0),(6,sp),(8,cn 0),(10,sp),(12,cn 0),(14,sp),(16,cn 0),(18,sp),(20,cn 0),(22,sp)]) (.cond .leaf (jb 41 (rg 42 18) (.reg [(1,cn 0),(2,sp),(4,cn 0),(6,sp),(8,cn 0),(10,sp),(12,cn 0),(14,sp),(16,cn 0),(18,sp)]) (.cond .leaf (jb 60 (rg 61 18) (.reg [(1,cn 0),(2,sp),(4,cn 0),(6,sp),(8,cn 0),(10,sp),(12,cn 0),(14,sp),(16,cn 0),(18,sp)]) (.cond .leaf (jb 79 (rg 80 22) (.reg [(1,cn 0),(2,sp),(4,cn 0),(6,sp),(8,cn 0),(10,sp),(12,cn 0),(14,sp),(16,cn 0),(18,sp),(20,cn 0),(22,sp)]) .leaf)))))))))) .leaf)) [hj] hi bx
def tk:=mkP 71 Tryz.f71 Tryz.call71 Tryz.func71 (cl [fu] []) (sl (.seq (jb 20 (rg 8 12) (.reg [(2,sp),(8,sp),(10,cn 0),(12,sp)]) .leaf) (sl (.join ⟨[(1,hi)],(rg 25 12),[],[],[]⟩ (jb 34 (rg 25 9) (.reg [(2,sp),(9,sp)]) .leaf) (.join ⟨[],(rg 37 26),[(1,.ls (.tp (.ti .i32) aa))],[],[]⟩ (jc 43 (rg 37 6) 6 .leaf (js 56 (rg 50 6) 6 .leaf)) .leaf))))) [hl,hi,hj] hl (u3 ft)
def kq:=mkP 41 Tryz.f41 Tryz.call41 Tryz.func41 noC (sl (.seq (.reg [(3,sp),(8,sp),(13,sp),(18,sp),(23,sp)]) .leaf)) [hP] hb bH
def tq:=mkP 142 Tryz.f142 Tryz.call142 Tryz.func142 (cl [kq,fu] []) (sl (.seq (jb 7 [4,5,6] (.reg [(2,cn 0),(3,sp)]) .leaf) (.seq (jc 10 [8,9] 2 (.seq (.reg [(3,sp),(9,sp)]) .leaf) .leaf) (.seq (jb 42 (rg 26 16) (.reg [(3,sp),(8,sp),(11,cn 1),(16,sp)]) .leaf) (.seq (sl (.blk (.loop ⟨[(3,hi)],(rg 43 27),[],[],[]⟩ [(.ret,⟨[(2,.k (.bool false))],([3]++rg 43 27),[],[],[]⟩),(.exit 0,⟨[],([3]++rg 43 27),[],[],[]⟩)] (.seq (js 44 [43] 1 .leaf) (.seq (.blk (jb 69 (rg 47 22) (.reg [(2,{sel:=true}),(5,sp),(8,{sel:=true}),(10,cn 1),(12,sp),(15,sp),(22,sp)]) .leaf)) .leaf))))) .leaf))))) [hc] hb jf
def nG:=mkP 127 Tryz.f127 Tryz.call127 Tryz.func127 (cl [tq] []) (sl (.seq (js 6 [4,5] 2 .leaf) (.seq (sl (.blk (.loop ⟨[(3,hi)],(rg 7 67),[],[],[]⟩ [(.ret,⟨[(2,.k (.bool false))],([3]++rg 7 67),[],[],[]⟩),(.exit 0,⟨[],([3]++rg 7 67),[],[],[]⟩)] (.seq (js 10 [7,8,9] 3 .leaf) (.seq (.blk (.seq (jb 18 (rg 13 5) (.reg [(4,cn 0),(5,sp)]) .leaf) (.seq (jb 54 (rg 19 35) (.reg [(6,sp),(12,sp),(21,sp),(35,sp)]) .leaf) (jb 73 (rg 55 18) (.reg [(6,sp),(9,sp),(18,sp)]) .leaf)))) .leaf))))) .leaf))) [hl] hb g7
def te:=mkP 123 Tryz.f123 Tryz.call123 Tryz.func123 (cl [nG] []) (sl (sl (.seq (sl (.blk (.loop ⟨[(7,.rww 0 1),(8,hi)],(rg 9 34),[(0,.ls (.tl (.tp (.ti .i32) aa)))],[],[]⟩ [(.exit 0,⟨[(7,.rww 0 1)],(rg 8 35),[(0,.ls (.tl (.tp (.ti .i32) aa)))],[],[]⟩)] (.seq (js 12 [9,10,11] 3 .leaf) (.join ⟨[(7,.rww 1 1)],(rg 15 28),[(1,.ls (.tl (.tp (.ti .i32) aa)))],[],[0]⟩ (.blk (jb 31 (rg 15 16) (.reg [(3,sp),(13,sp),(15,cn 0),(16,sp)]) .leaf)) .leaf))))) .leaf))) [hg,hi,hl] hg (u3 je)
def nE:=mkP 70 Tryz.f70 Tryz.call70 Tryz.func70 (cl [te] []) (sl (.seq (.reg [(5,cn 0)]) .leaf)) [hS,hl] hS (u2 cj)
def iI:=mkP 83 Tryz.f83 Tryz.call83 Tryz.func83 (cl [cZ] []) (sl (.seq (jb 25 (rg 13 12) (.reg [(2,sp),(7,sp),(12,sp)]) .leaf) (.join ⟨[(3,hi)],[27,28],[],[],[]⟩ (js 28 [27] 1 .leaf) (.join ⟨[(3,hi)],[29,30],[],[],[]⟩ (js 30 [29] 1 .leaf) (sl (.seq (sl (.blk (.loop ⟨[(11,.rww 1 1),(12,hi)],(rg 31 53),[(1,.ls (.tl (.tp (.ti .i32) aa)))],[],[]⟩ [(.exit 0,⟨[(11,.rww 1 1)],([12]++rg 31 53),[(1,.ls (.tl (.tp (.ti .i32) aa)))],[],[]⟩)] (.seq (js 34 [31,32,33] 3 .leaf) (.join ⟨[(11,.rww 2 1)],(rg 37 47),[(2,.ls (.tl (.tp (.ti .i32) aa)))],[],[1]⟩ (.blk (.blk (jb 46 (rg 47 8) (.reg [(3,sp),(8,sp)]) (.cond .leaf (jb 62 (rg 63 12) (.reg [(5,sp),(12,sp)]) (.cond (.reg [(6,cn 0)]) .leaf)))))) .leaf))))) .leaf)))))) [hg,hi,hi,hi,hP] hg (u5 cy)
def mt:=mkP 72 Tryz.f72 Tryz.call72 Tryz.func72 (cl [iI] []) (sl (.join ⟨[],(rg 3 25),[],[(0,2,hg),(0,4,hi)],[]⟩ (jc 7 (rg 3 4) 4 (.reg [(8,cn 0)]) (js 23 (rg 18 5) 5 .leaf)) .leaf)) [hS] hS fg
def dq:=mkI 124 Tryz.f124 Tryz.call124 Tryz.func124 (cl [gn] []) (sl (sl (.seq (sl (.blk (.loop ⟨[(5,.rww 0 7),(6,hi)],(rg 7 37),[(0,.ls (.tp (.ti .i32) aa))],[],[]⟩ [(.exit 0,⟨[(5,.rww 0 7)],(rg 6 38),[(0,.ls (.tp (.ti .i32) aa))],[],[]⟩)] (.seq (js 11 [8,9,10] 3 .leaf) (.seq (.blk (sl (.join ⟨[],(rg 18 22),[],[(1,0,hj),(1,1,hj),(1,2,hj),(1,3,hi),(1,4,hi),(1,5,hi),(1,6,hi)],[]⟩ (jb 36 (rg 18 18) (.reg [(3,sp),(8,sp),(13,sp),(18,sp)]) (.cond (.reg [(2,cn 0)]) .leaf)) .leaf))) .leaf))))) .leaf))) [hl,hi] [] ⟨[(0,.rww 0 7)],[],[(0,.ls (.tp (.ti .i32) aa))],[],[]⟩ (u2 bo)
def eY:=mkI 124 Tryz.f124 Tryz.call124 Tryz.func124 (cl [gn] []) (sl (sl (.seq (sl (.blk (.loop ⟨[(5,.rww 1 7),(6,hi)],(rg 7 37),[(1,.ls (.tp (.ti .i32) aa))],[],[]⟩ [(.exit 0,⟨[(5,.rww 1 7)],(rg 6 38),[(1,.ls (.tp (.ti .i32) aa))],[],[]⟩)] (.seq (js 11 [8,9,10] 3 .leaf) (.seq (.blk (sl (.join ⟨[],(rg 18 22),[],[(2,0,hj),(2,1,hj),(2,2,hj),(2,3,hi),(2,4,hi),(2,5,hi),(2,6,hi)],[]⟩ (jb 36 (rg 18 18) (.reg [(3,sp),(8,sp),(13,sp),(18,sp)]) (.cond (.reg [(2,cn 0)]) .leaf)) .leaf))) .leaf))))) .leaf))) [.rww 0 7,hi] [(0,.ls (.tp (.ti .i32) aa))] ⟨[(0,.rww 1 7)],[],[(1,.ls (.tp (.ti .i32) aa))],[],[]⟩ (u2 bO)
def ly:=mkP 73 Tryz.f73 Tryz.call73 Tryz.func73 (cl [cZ] [dq,eY]) (sl (.seq (jb 22 (rg 11 11) (.reg [(2,sp),(6,sp),(11,sp)]) .leaf) (.join ⟨[(2,hi)],(rg 24 10),[],[],[]⟩ (js 29 (rg 24 5) 5 .leaf) (.seq (.reg [(2,oi 0),(7,oi 1)]) (sl (.seq (.reg [(3,cn 0)]) .leaf)))))) [hl,hi,hi,hP] hl (u4 fF)
def uO:=mkP 74 Tryz.f74 Tryz.call74 Tryz.func74 (cl [fu] [dq,eY]) (sl (.seq (.reg [(1,cn 0)]) (.seq (jb 35 (rg 13 22) (.reg [(2,sp),(6,sp),(12,sp),(15,sp),(22,sp)]) .leaf) (.seq (.reg [(2,oi 0),(6,oi 1)]) (sl (.join ⟨[],(rg 52 8),[(2,.ls (.tp (.ti .i32) aa))],[],[]⟩ (js 53 [52] 1 .leaf) .leaf)))))) [hl,hi,hj,hP] hl (u4 jQ)
def rE:=mkP 32 Tryz.f32 Tryz.call32 Tryz.func32 (cl [fu,tk,nE,cP,mt,ly,uO] []) (sl (.seq (.reg [(1,cn 0)]) (.seq (jb 16 (rg 9 7) (.reg [(2,sp),(7,sp)]) .leaf) (.seq (jc 19 [18] 1 (.seq (jc 21 [20] 1 (.seq (.reg [(10,cn 1),(11,cn 2)]) .leaf) .leaf) (.seq (.reg [(11,cn 1),(12,cn 2)]) .leaf)) .leaf) (.seq (.reg [(1,cn 3)]) (.join ⟨[],(rg 49 7),[],(sF 0),[]⟩ (jc 50 [49] 1 (sl (jc 52 [] 0 (sl (.reg [(1,cn 4)])) .leaf)) .leaf) (.join ⟨[],(rg 56 16),[],(sF 0),[]⟩ (jc 62 (rg 56 6) 6 (jc 63 [] 0 (sl (.reg [(1,cn 4)])) .leaf) .leaf) (.join ⟨[],(rg 72 16),[],(sF 0),[]⟩ (jb 73 [72] (.reg [(1,{split:=true,con:=3})]) (.cond (.reg [(12,cn 5),(13,cn 2)]) .leaf)) (.seq (.reg [(12,cn 6),(13,cn 2)]) (.seq (js 108 (rg 102 6) 6 .leaf) .leaf)))))))))) [hS,hj] hS (u2 ij)
def tA:=mkP 75 Tryz.f75 Tryz.call75 Tryz.func75 noC (sl (sl (sl (.seq (.reg [(1,{sel:=true}),(4,{sel:=true})]) .leaf)))) [hi] (.tup [hi,hi]) lq
def po:=mkP 76 Tryz.f76 Tryz.call76 Tryz.func76 noC (sl (.seq (rs 2) .leaf)) [hi] hb ba
def rI:=mkP 33 Tryz.f33 Tryz.call33 Tryz.func33 (cl [kq,tA,po] []) (sl (.join ⟨[],(rg 17 9),[],(sP 0),[]⟩ (jb 24 (rg 17 7) (.reg [(1,cn 0),(3,sp),(7,sp)]) .leaf) (sl (.seq (.blk (.loop ⟨[(5,hi)],(rg 6 11++rg 26 189++rg 216 15),[],(sP 0),[]⟩ [(.ret,⟨[],(rg 5 12++rg 26 205),[],[(0,0,hi),(0,1,hi),(0,2,hi),(1,0,hi),(1,1,hi),(1,2,hi)],[]⟩),(.exit 0,⟨[],(rg 5 12++rg 26 189++rg 216 15),[],(sP 0),[]⟩)] (.seq (js 29 [26,27,28] 3 .leaf) (.blk (sl (sl (.seq (js 37 [36] 1 .leaf) (.seq (sl (.blk (.loop ⟨[(7,hi)],([8,9,10]++rg 39 44),[],[(0,0,hi)],[]⟩ [(.exit 2,⟨[],(rg 7 4++rg 39 44),[],[(0,0,hi)],[]⟩)] (.seq (js 40 [39] 1 .leaf) (.join ⟨[],([8,9,10]++rg 43 40),[],[(0,0,hi)],[]⟩ (.blk (.seq (.reg [(1,cn 1)]) (sl (.join ⟨[],(rg 51 16),[],[(0,0,hi)],[]⟩ (jb 61 (rg 51 10) (.reg [(3,sp),(10,sp)]) .leaf) (jb 77 (rg 67 10) (.reg [(3,sp),(10,sp)]) .leaf))))) .leaf))))) (sl (sl (.joinX ⟨[(5,hi),(11,hi),(12,hb)],(rg 13 4++rg 83 132),[],[],[]⟩ (.blk (jb 83 (rg 84 6) (.reg [(2,sp),(6,sp)]) (.cond .leaf (jb 93 (rg 94 6) (.reg [(2,sp),(6,sp)]) (.cond .leaf (jc 103 [104,105] 2 .leaf (jb 106 (rg 107 6) (.reg [(2,sp),(6,sp)]) (.cond .leaf (jb 116 (rg 117 6) (.reg [(2,sp),(6,sp)]) (.cond .leaf (jc 126 [127,128] 2 .leaf (jb 129 (rg 130 6) (.reg [(2,sp),(6,sp)]) (.cond (sl (sl (jb 155 (rg 141 14) (.reg [(3,sp),(9,sp),(13,cn 2),(14,sp)]) (.cond .leaf (jb 188 (rg 162 26) (.reg [(3,sp),(9,sp),(13,cn 2),(15,sp),(19,cn 2),(21,sp),(25,cn 2),(26,sp)]) .leaf))))) .leaf))))))))))))) (.join ⟨[],(rg 216 7),[],[(0,2,hi)],[]⟩ (jb 220 (rg 216 4) (.reg [(2,sp),(4,sp)]) .leaf) (jb 228 (rg 223 5) (.reg [(2,sp),(5,sp)]) .leaf))))))))))))) .leaf)))) [hP,.h (.tl (.ti .i64))] hP (u2 ik)
def sY:=mkP 85 Tryz.f85 Tryz.call85 Tryz.func85 (cl [dA] []) (sl (.seq (sl (.blk (.loop ⟨[(7,hi)],(rg 9 22),[],[(0,4,hi)],[]⟩ [(.exit 0,⟨[],([7]++rg 9 22),[],[(0,4,hi)],[]⟩)] (.seq (js 11 [9,10] 2 .leaf) (.join ⟨[],(rg 14 17),[],[(0,4,hi)],[]⟩ (.blk (jb 26 (rg 14 12) (.reg [(5,sp),(12,sp)]) .leaf)) .leaf))))) (.seq (sl (.blk (.loop ⟨[(8,hi)],(rg 31 19),[],[(0,4,hi)],[]⟩ [(.exit 2,⟨[],([8]++rg 31 19),[],[(0,4,hi)],[]⟩)] (.seq (js 33 [31,32] 2 .leaf) (.join ⟨[],(rg 36 14),[],[(0,4,hi)],[]⟩ (.blk (jb 45 (rg 36 9) (.reg [(5,sp),(9,sp)]) .leaf)) .leaf))))) (.seq (.reg [(7,cn 0)]) .leaf)))) [hS,hi,hi] hS (u3 jd)
def ta:=mkP 86 Tryz.f86 Tryz.call86 Tryz.func86 (cl [ll] []) (sl (.join ⟨[(2,hi)],[8,9],[],[],[]⟩ (js 9 [8] 1 .leaf) (.join ⟨[(2,hi)],[10,11],[],[],[]⟩ (js 11 [10] 1 .leaf) (.seq (sl (.blk (.loop ⟨[(7,hi)],(rg 12 13),[],[],[]⟩ [(.ret,⟨[(6,hi)],([7]++rg 12 14),[],[],[]⟩),(.exit 0,⟨[],([7]++rg 12 13),[],[],[]⟩)] (.seq (js 14 [12,13] 2 .leaf) (.seq (.blk (jb 24 (rg 17 7) (.reg [(3,sp),(6,cn 0),(7,sp)]) .leaf)) .leaf))))) .leaf)))) [hT,hi,hi] hi (u3 fh)
def td:=mkP 87 Tryz.f87 Tryz.call87 Tryz.func87 (cl [ll] []) (sl (.seq (sl (.blk (.loop ⟨[(5,hi)],(rg 6 12),[],[],[]⟩ [(.ret,⟨[(4,hi)],(rg 5 14),[],[],[]⟩),(.exit 0,⟨[],(rg 5 13),[],[],[]⟩)] (.seq (js 7 [6] 1 .leaf) (.seq (.blk (jb 17 (rg 10 7) (.reg [(3,sp),(6,cn 0),(7,sp)]) .leaf)) .leaf))))) .leaf)) [hT,hi] hi (u2 fp)
def qR:=mkP 38 Tryz.f38 Tryz.call38 Tryz.func38 (cl [mt,iI,mr,sY,dA,ta,td,kV] []) (sl (.join ⟨[],(rg 5 134),[],(sF 0),[]⟩ (sl (.blk (jc 10 [11] 1 (sl (.blk (.loop ⟨[(5,hi)],(rg 12 8),[],(sF 0),[]⟩ [(.exit 1,⟨[],([5]++rg 12 8),[],(sF 0),[]⟩)] (.seq (js 15 [12,13,14] 3 .leaf) (.seq (.blk (.reg [(1,cn 0)])) .leaf))))) (jc 20 [21] 1 (jc 26 (rg 22 4) 4 (.reg [(8,cn 1)]) (js 39 [37,38] 2 .leaf)) (jc 44 [45] 1 .leaf (jc 47 [48] 1 (.reg [(5,cn 2)]) (jc 55 [56] 1 (.reg [(5,cn 3)]) (jc 63 [64] 1 (.reg [(5,cn 4)]) (jc 72 [73] 1 (.reg [(5,cn 2)]) (jc 80 [81] 1 (.seq (sl (.blk (.loop ⟨[(6,hi)],(rg 82 14),[],[(0,5,hi)],[]⟩ [(.exit 3,⟨[],([6]++rg 82 14),[],[(0,5,hi)],[]⟩)] (.seq (js 85 [82,83,84] 3 .leaf) (.seq (.blk (.reg [(6,cn 5)])) .leaf))))) (sl (.blk (.loop ⟨[(7,hi)],(rg 96 12),[],[(0,5,hi)],[]⟩ [(.exit 5,⟨[],([7]++rg 96 12),[],[(0,5,hi)],[]⟩)] (.seq (js 99 [96,97,98] 3 .leaf) (.seq (.blk (.reg [(4,cn 6)])) .leaf)))))) (jc 108 [109] 1 (jb 126 (rg 110 16) (.reg [(3,sp),(10,sp),(16,sp)]) (.cond (sl (sl (.reg [(1,cn 2)]))) .leaf)) (jc 135 [136] 1 (.reg [(1,cn 7)]) .leaf)))))))))))) .leaf)) [hS,hC] hS (u2 bd)
def rG:=mkP 140 Tryz.f140 Tryz.call140 Tryz.func140 noC (sl (.seq (.reg [(3,sp),(10,sp),(15,sp)]) .leaf)) [hg,.st (.tp (.ti .i64) (.ti .i64))] hb (u2 fY)
def l6:=mkP 82 Tryz.f82 Tryz.call82 Tryz.func82 (cl [gn] [dq,eY]) (sl (.join ⟨[(1,hi)],[11,12],[],[],[]⟩ (js 12 [11] 1 .leaf) (.join ⟨[(2,hi)],(rg 13 6),[],[],[]⟩ (js 16 [13,14,15] 3 .leaf) (.seq (js 21 [19,20] 2 .leaf) (.seq (.reg [(2,oi 0),(4,oi 1)]) (.seq (sl (.blk (.loop ⟨[(10,hi)],(rg 29 10),[(2,.ls (.tp (.ti .i32) aa))],[],[]⟩ [(.exit 0,⟨[],([10]++rg 29 10),[(2,.ls (.tp (.ti .i32) aa))],[],[]⟩)] (.seq (js 31 [29,30] 2 .leaf) (.seq (.blk (.reg [(3,cn 0)])) .leaf))))) .leaf)))))) [hl,hi,hi,hP] hl (u4 ey)
def rH:=mkP 125 Tryz.f125 Tryz.call125 Tryz.func125 (cl [rG,l6] []) (sl (.seq (jb 22 (rg 13 9) (.reg [(2,cn 0),(4,sp),(7,cn 0),(9,sp)]) .leaf) (sl (.seq (sl (.blk (.loop ⟨[(9,.rww 3 1),(10,hi)],([11,12]++rg 24 48),[(3,.ls (.tl (.tp (.ti .i32) aa)))],[],[]⟩ [(.exit 0,⟨[(9,.rww 3 1)],([10,11,12]++rg 24 48),[(3,.ls (.tl (.tp (.ti .i32) aa)))],[],[]⟩)] (.seq (js 27 [24,25,26] 3 .leaf) (.seq (.blk (sl (sl (.join ⟨[(11,hi),(12,hi)],(rg 34 27),[],[],[]⟩ (jb 43 (rg 34 9) (.reg [(4,sp),(9,sp)]) (.cond (sl (sl (.join ⟨[(11,hi)],(rg 48 6),[],[],[]⟩ (js 51 [48,49,50] 3 .leaf) (js 57 [54,55,56] 3 .leaf)))) .leaf)) (.reg [(8,cn 1)]))))) .leaf))))) .leaf)))) [hg,.st (.tp (.ti .i64) (.ti .i64)),.st (.tp (.ti .i64) (.ti .i64)),hP] hg (u4 dB)
def rF:=mkP 80 Tryz.f80 Tryz.call80 Tryz.func80 (cl [rH] []) (sl (sl (.join ⟨[],(rg 15 31),[],[(0,2,hg)],[]⟩ (sl (.blk (jc 16 [17] 1 (.reg [(6,cn 0)]) (jc 26 [27] 1 (.reg [(6,cn 0)]) (jc 36 [37] 1 (.reg [(6,cn 0)]) .leaf))))) .leaf))) [hS,hi,.st (.tp (.ti .i64) (.ti .i64)),.st (.tp (.ti .i64) (.ti .i64))] hS (u4 dx)
def qS:=mkP 81 Tryz.f81 Tryz.call81 Tryz.func81 (cl [cZ] [dq,eY]) (sl (.seq (jb 22 (rg 11 11) (.reg [(2,sp),(6,sp),(11,sp)]) .leaf) (.join ⟨[(2,hi)],(rg 24 10),[],[],[]⟩ (js 29 (rg 24 5) 5 .leaf) (.seq (.reg [(2,oi 0),(6,oi 1)]) (sl (sl (.seq (.reg [(3,cn 0)]) .leaf))))))) [hl,hi,hi,hP] hl (u4 gS)
def uP:=mkP 141 Tryz.f141 Tryz.call141 Tryz.func141 (cl [cZ] [dq]) (sl (.seq (jc 8 [5,6,7] 3 (.seq (.reg [(2,oi 0)]) .leaf) .leaf) (.seq (.reg [(8,cn 0)]) .leaf))) [hl,hi] hl (u2 jR)
def uN:=mkP 126 Tryz.f126 Tryz.call126 Tryz.func126 (cl [uP,cZ] []) (sl (sl (.seq (sl (.blk (.loop ⟨[(9,.rww 0 1),(10,hi)],(rg 12 21),[(0,.ls (.tl (.tp (.ti .i32) aa)))],[],[]⟩ [(.exit 0,⟨[(9,.rww 0 1)],([10]++rg 12 21),[(0,.ls (.tl (.tp (.ti .i32) aa)))],[],[]⟩)] (.seq (jb 21 (rg 12 9) (.reg [(4,sp),(9,sp)]) .leaf) (.seq (.blk (.reg [(6,cn 0)])) .leaf))))) (.seq (.blk (.loop ⟨[(9,.rww 1 1)],(rg 33 10),[(1,.ls (.tl (.tp (.ti .i32) aa)))],[],[0]⟩ [(.exit 2,⟨[(9,.rww 1 1)],(rg 33 10),[(1,.ls (.tl (.tp (.ti .i32) aa)))],[],[0]⟩)] (.seq (js 36 [33,34,35] 3 .leaf) (.blk (.reg [(3,cn 1)]))))) .leaf)))) [hg,hi,hi,hi] hg (u4 g6)
def qQ:=mkP 84 Tryz.f84 Tryz.call84 Tryz.func84 (cl [dA,cP,uN,lZ] []) (sl (.seq (.reg [(1,cn 0)]) (.seq (.reg [(1,cn 0)]) (.seq (.reg [(5,cn 0)]) (.join ⟨[],([8]++rg 19 21),[],[(0,3,hg)],[]⟩ (jb 20 [19] (.reg [(1,{split:=true,con:=1})]) (.cond (.seq (.reg [(7,cn 0)]) (.reg [(8,cn 0),(9,cn 2)])) .leaf)) (.seq (.reg [(5,cn 2)]) (.seq (.reg [(5,cn 3)]) (sl (.seq (.reg [(4,cn 0)]) .leaf))))))))) [hS,hi,hi] hS (u3 gR)
def s8:=mkP 37 Tryz.f37 Tryz.call37 Tryz.func37 (cl [rF,ly,nE,qS,l6,iI,nF,qQ] []) (sl (.join ⟨[],(rg 5 186),[],(sF 0),[]⟩ (sl (.blk (jc 12 [13] 1 (.reg [(12,cn 0)]) (jc 27 [28] 1 (.reg [(11,cn 0)]) (jc 41 [42] 1 (.reg [(13,cn 1),(14,cn 2)]) (jc 58 [59] 1 (.reg [(13,cn 3),(14,cn 2)]) (jc 75 [76] 1 (.reg [(16,cn 4),(17,cn 2)]) (jb 95 [96,97] (jc 95 [96] 1 .leaf (rs 1)) (.cond (jb 109 (rg 98 11) (.reg [(5,sp),(11,sp)]) (.cond (sl (.join ⟨[(5,hi)],[112,113],[],[],[]⟩ (js 113 [112] 1 .leaf) (.join ⟨[(5,hi)],(rg 114 5),[],[],[]⟩ (js 116 [114,115] 2 .leaf) (.seq (.reg [(9,cn 5)]) .leaf)))) .leaf)) (jc 131 [132] 1 (.reg [(10,cn 5)]) (jc 145 [146] 1 (sl (.seq (sl (.blk (.loop ⟨[(6,.rww 3 1),(7,hi)],([8,9]++rg 147 20),[(3,.ls (.tl (.tp (.ti .i32) aa)))],[],[]⟩ [(.exit 1,⟨[(6,.rww 3 1)],([7,8,9]++rg 147 20),[(3,.ls (.tl (.tp (.ti .i32) aa)))],[],[]⟩)] (.seq (js 150 [147,148,149] 3 .leaf) (.seq (.blk (sl (.seq (sl (.blk (.loop ⟨[(8,.rww 4 7),(9,hi)],(rg 153 10),[(4,.ls (.tp (.ti .i32) aa))],[],[]⟩ [(.exit 3,⟨[(8,.rww 4 7)],([9]++rg 153 10),[(4,.ls (.tp (.ti .i32) aa))],[],[]⟩)] (.seq (js 156 [153,154,155] 3 .leaf) .leaf)))) (.reg [(2,{fz:=[(164,.tp (.ti .i32) aa)]})])))) .leaf))))) (.seq (.reg [(2,{fz:=[(167,.tl (.tp (.ti .i32) aa))]})]) .leaf))) (jc 176 [177] 1 (.reg [(4,cn 6)]) (jc 183 [184] 1 (.reg [(5,cn 7)]) .leaf))))))))))))) .leaf)) [hS,hC] hS (u2 bc)
def uK:=mkP 12 Tryz.f12 Tryz.call12 Tryz.func12 (cl [pJ,dA,rE,rI,fu,mu,mo,qR,s8] []) (sl (.seq (jb 14 (rg 7 7) (.reg [(3,sp),(7,sp)]) .leaf) (.seq (jc 18 [16,17] 2 (.seq (.reg [(6,cn 0)]) .leaf) .leaf) (.join ⟨[],(rg 26 11),[],[(1,1,hi),(1,2,hi)],[]⟩ (jc 28 [26,27] 2 (.seq (.reg [(2,cn 1)]) (.reg [(2,cn 1)])) .leaf) (.seq (sl (.blk (jc 39 [40] 1 (.seq (.reg [(3,cn 2)]) .leaf) (jc 45 [46] 1 (.seq (.reg [(4,cn 3)]) .leaf) (jc 54 [55] 1 (sl (.seq (sl (.blk (.loop ⟨[(5,.rww 3 1),(6,hi)],(rg 56 27),[(3,.ls (.ti .i32))],[],[]⟩ [(.exit 1,⟨[(5,.rww 3 1)],([6]++rg 56 27),[(3,.ls (.ti .i32))],[],[]⟩)] (.seq (js 60 (rg 56 4) 4 .leaf) (.join ⟨[(5,.rww 4 1)],(rg 63 20),[(4,.ls (.ti .i32))],[],[3]⟩ (.blk (jb 74 (rg 63 11) (.reg [(5,cn 4),(7,sp),(11,sp)]) .leaf)) .leaf))))) (.seq (.reg [(2,{fz:=[(83,.ti .i32)]})]) .leaf))) (jc 86 [87] 1 (.join ⟨[],(rg 88 18),[],[(0,27,hu),(0,28,hu),(0,29,hu),(0,30,hu)],[]⟩ (sl (.blk (jb 90 [91,92] (jc 90 [91] 1 .leaf (rs 1)) (.cond (.reg [(7,cn 5)]) (js 102 [103] 1 .leaf))))) .leaf) (jc 107 [108] 1 (.seq (.reg [(1,cn 6)]) .leaf) .leaf))))))) (sl (.seq (.reg [(2,cn 7),(4,cn 8)]) .leaf))))))) [hS,hC] hS (u2 an)
def uM:=mkP 88 Tryz.f88 Tryz.call88 Tryz.func88 (cl [mv,nG] []) (sl (.seq (jb 15 (rg 4 11) (.reg [(2,cn 0),(4,sp),(9,cn 0),(11,sp)]) .leaf) (.seq (sl (.blk (.loop ⟨[(3,hi)],(rg 16 24),[],[],[]⟩ [(.ret,⟨[(2,.k (.bool false))],([3]++rg 16 24),[],[],[]⟩),(.exit 0,⟨[],([3]++rg 16 24),[],[],[]⟩)] (.seq (js 19 [16,17,18] 3 .leaf) (.seq (.blk (jb 39 (rg 22 17) (.reg [(10,sp),(15,cn 1),(17,sp)]) .leaf)) .leaf))))) .leaf))) [hg] hb jP
def sZ:=mkP 39 Tryz.f39 Tryz.call39 Tryz.func39 (cl [uM] []) (sl (.seq (.reg [(1,cn 0),(2,sp),(8,sp)]) .leaf)) [hg,hi,hi] hb (u3 ff)
def uL:=mkP 13 Tryz.f13 Tryz.call13 Tryz.func13 (cl [sZ,cP,kq,fu] []) (sl (.seq (jb 23 (rg 6 17) (.reg [(3,sp),(8,sp),(15,cn 0),(17,sp)]) .leaf) (.joinX ⟨[],(rg 24 14),[],[],[]⟩ (jb 25 [24] (.reg [(1,{split:=true,con:=1})]) (.cond (jb 33 (rg 26 7) (.reg [(6,cn 0),(7,sp)]) .leaf) (js 37 [34,35,36] 3 .leaf))) (.seq (jb 83 (rg 38 45) (.reg [(3,sp),(10,sp),(15,sp),(22,sp),(27,sp),(34,sp),(37,sp),(45,sp)]) .leaf) (.seq (jb 115 (rg 84 31) (.reg [(5,sp),(9,sp),(14,sp),(20,sp),(23,cn 2),(26,sp),(31,sp)]) .leaf) (.seq (sl (.blk (.loop ⟨[(3,hi)],([4]++rg 116 32),[],[],[]⟩ [(.ret,⟨[(2,.k (.bool false))],([3,4]++rg 116 32),[],[],[]⟩),(.exit 0,⟨[],([3,4]++rg 116 32),[],[],[]⟩)] (.seq (js 117 [116] 1 .leaf) (.seq (.blk (.join ⟨[(4,.ptr 1 0)],(rg 120 4),[(1,.cs [hi,hi,hi,hi,hi,hb,hb])],[],[]⟩ (.reg [(2,{sel:=true})]) (jb 147 (rg 124 23) (.reg [(3,sp),(8,sp),(13,sp),(18,sp),(21,cn 2),(23,sp)]) .leaf))) .leaf))))) (.seq (sl (.blk (.loop ⟨[(5,hi)],(rg 148 14),[],[],[]⟩ [(.ret,⟨[(2,.k (.bool false))],([5]++rg 148 14),[],[],[]⟩),(.exit 2,⟨[],([5]++rg 148 14),[],[],[]⟩)] (.seq (js 152 (rg 148 4) 4 .leaf) (.seq (.blk (jb 161 (rg 155 6) (.reg [(5,cn 3),(6,sp)]) .leaf)) .leaf))))) .leaf))))))) [hS] hb jO
def MJ:=mkP 6 Tryz.f6 Tryz.call6 Tryz.func6 noC (sl (.seq (jb 27 (rg 9 18) (.reg [(2,sp),(6,sp),(9,sp),(14,sp)]) .leaf) (sl (.seq (sl (.blk (.loop ⟨[],[],[],[],[]⟩ [(.exit 0,⟨[],(rg 28 4),[],[],[]⟩)] .leaf))) .leaf)))) [hi,hi,.k .nils] hb (u2 ww)
def MT:=mkP 14 Tryz.f14 Tryz.call14 Tryz.func14 noC (sl (.seq (sl (.blk (.loop ⟨[(3,hi)],(rg 4 12),[],[],[]⟩ [(.ret,⟨[(2,.k (.bool true))],(rg 3 13),[],[],[]⟩),(.exit 0,⟨[],(rg 3 13),[],[],[]⟩)] (.seq (js 7 [4,5,6] 3 .leaf) (.seq (.blk (js 15 (rg 10 5) 5 .leaf)) .leaf))))) .leaf)) [hg] hb yD
def MS:=mkP 42 Tryz.f42 Tryz.call42 Tryz.func42 noC (sl (sl (.seq (sl (.blk (.loop ⟨[(3,.rww 0 1),(4,hi)],(rg 5 15),[(0,.ls (.tl (.tp (.ti .i32) aa)))],[],[]⟩ [(.exit 0,⟨[(3,.rww 0 1)],(rg 4 16),[(0,.ls (.tl (.tp (.ti .i32) aa)))],[],[]⟩)] (.seq (js 8 [5,6,7] 3 .leaf) (.seq (.blk (.reg [(7,{fz:=[(17,.tp (.ti .i32) aa)]})])) .leaf))))) .leaf))) [hg] hg Dx
def MR:=mkP 15 Tryz.f15 Tryz.call15 Tryz.func15 (cl [MS] []) (sl (.seq (.reg [(2,cn 0)]) (.seq (.reg [(2,cn 0)]) (.seq (.reg [(5,{fz:=[(14,.ti .i32)]})]) .leaf)))) [hS] hS ME
def MO:=mkP 96 Tryz.f96 Tryz.call96 Tryz.func96 noC (sl (.seq (js 10 (rg 6 4) 4 .leaf) (.seq (sl (.blk (.loop ⟨[(13,hi)],([5]++rg 14 12),[],[],[]⟩ [(.ret,⟨[(4,.k (.bool false))],([5]++rg 13 13),[],[],[]⟩),(.exit 0,⟨[],([5]++rg 13 13),[],[],[]⟩)] (js 14 [] 0 (sl (.seq (.blk (sl (js 24 (rg 16 8) 8 .leaf))) .leaf)))))) .leaf))) [hl,hl] hb (u2 kj)
def MY:=mkP 95 Tryz.f95 Tryz.call95 Tryz.func95 (cl [MO] []) (sl (.seq (.reg [(2,cn 0)]) .leaf)) [hl,hl] hb (u2 MM)
def MH:=mkP 94 Tryz.f94 Tryz.call94 Tryz.func94 (cl [MY] []) (sl (.seq (js 14 (rg 10 4) 4 .leaf) (.seq (sl (.blk (.loop ⟨[(17,hi)],([7,8,9]++rg 18 14),[],[],[]⟩ [(.ret,⟨[(6,.k (.bool false))],([7,8,9]++rg 17 15),[],[],[]⟩),(.exit 0,⟨[],([7,8,9]++rg 17 15),[],[],[]⟩)] (js 18 [] 0 (sl (.seq (.blk (sl (sl (jb 30 (rg 26 4) (.reg [(3,cn 0),(4,sp)]) .leaf)))) .leaf)))))) .leaf))) [hg,hg,.fn 95 []] hb (u2 yE)
def M8:=mkP 48 Tryz.f48 Tryz.call48 Tryz.func48 (cl [MH] []) (sl (.seq (sl (.blk (.loop ⟨[(3,hi)],(rg 4 15),[],[],[]⟩ [(.ret,⟨[(2,.k (.bool false))],(rg 3 16),[],[],[]⟩),(.exit 0,⟨[],(rg 3 16),[],[],[]⟩)] (.seq (js 7 [4,5,6] 3 .leaf) (.seq (.blk (jb 18 (rg 10 8) (.reg [(7,cn 0),(8,sp)]) .leaf)) .leaf))))) .leaf)) [.h (.tl (.tl (.tl (.tp (.ti .i32) aa))))] hb MG
def MN:=mkP 49 Tryz.f49 Tryz.call49 Tryz.func49 noC (sl (.seq (js 10 (rg 6 4) 4 .leaf) (.seq (sl (.blk (.loop ⟨[(13,hi)],([5]++rg 14 12),[],[],[]⟩ [(.ret,⟨[(4,.k (.bool false))],([5]++rg 13 13),[],[],[]⟩),(.exit 0,⟨[],([5]++rg 13 13),[],[],[]⟩)] (js 14 [] 0 (sl (.seq (.blk (sl (js 24 (rg 16 8) 8 .leaf))) .leaf)))))) .leaf))) [.h (.tl (.ti .i32)),.h (.tl (.ti .i32))] hb (u2 kg)
def MW:=mkP 17 Tryz.f17 Tryz.call17 Tryz.func17 (cl [M8,MN] []) (sl (.seq (jb 28 (rg 5 23) (.reg [(5,cn 0),(7,sp),(13,cn 0),(16,sp),(21,cn 1),(23,sp)]) .leaf) (.seq (.reg [(5,sp),(12,sp),(19,sp),(26,sp),(33,sp),(40,sp),(47,sp),(54,sp),(61,sp),(68,sp)]) .leaf))) [hS,hS] hb (u2 AA)
def MK:=mkP 4 Tryz.f4 Tryz.call4 Tryz.func4 (cl [rL,rM,MJ,MT,MR,pD,Ao,uL,MW,s9,uK] []) (sl (.seq (jb 10 [9] (.reg [(0,cn 0),(1,sp)]) .leaf) (.seq (jb 59 (rg 11 48) (.reg [(5,cn 1),(6,sp),(10,cn 2),(12,sp),(16,cn 2),(18,sp),(24,sp),(27,cn 3),(29,sp),(32,cn 3),(34,sp),(37,cn 3),(39,sp),(44,sp),(48,sp)]) .leaf) (.seq (.reg [(1,cn 4)]) (.seq (.reg [(3,{fz:=[(64,dP)],con:=5})]) (.seq (jb 91 (rg 66 25) (.reg [(1,cn 6),(3,cn 7),(5,sp),(8,cn 8),(11,cn 9),(14,sp),(17,cn 8),(20,sp),(23,cn 9),(25,sp)]) .leaf) (.seq (jb 94 [92,93] (.reg [(1,cn 7),(2,sp)]) (.cond (.seq (.reg [(2,cn 9)]) .leaf) .leaf)) (.seq (.reg [(3,cn 10),(4,cn 9)]) .leaf)))))))) [hS,hS,hC] hb (u3 Jv)
end Go.SH
namespace Go.SH
open Go.RowKit
def av0:Nat->Prop:=avo (fun _=>False) sig0 []
theorem H6 (β:Nat):¬av0 β:=by
 rintro (h | h)
 ·exact h
 ·exact avz h
theorem FL {E:Env} {f:FuncId} {args:List PV} (h:Pure E f args (.bool true)) (w:World) (cargs:Array Value) (hl:cargs.size=args.length)
  (hv:∀(i:Nat) (x:PV) (u:Value),args[i]?=some x->cargs[i]?=some u->VR w sig0 av0 x u)
  (hg:∀g cells,lget E.G g=some cells->VR w sig0 av0 (.rop cells 0) (.pointer (some ⟨g,0,none⟩))) :
  Calls E.P f cargs w fun e w'=>e = .returned (.bool true)/\Below w.heap.size w w':=by
 have:=h (fun _=>False) w sig0 cargs.toList (by simpa using hl) (fun i x u hx hu=>hv i x u hx (by simpa using hu)) (BR0 fun _ h=>h.elim) hg
 refine this.mono ?_
 rintro e w' ⟨r,c,L',σ',rfl,⟨rfl,rfl⟩,hvr,_,hgr⟩
 cases hvr
 refine ⟨rfl,hgr.out.1,hgr.out.2.2,hgr.out.2.1,hgr.size,fun k hk=>(hgr.keep k hk avz).2⟩
theorem Gu {w:World} {k:IntKind} {g:Nat} {zs:List Int} (hg:g<w.heap.size) (h:∀i,i<zs.length->w.cell? ⟨g,i,none⟩=some (.int k (zs.getD i 0))) :
  VR w sig0 av0 (.rop (fl (eI k) zs) 0) (.pointer (some ⟨g,0,none⟩)):=by
 refine .rop (off:=0) (add:=0) (zs.map fun z=>.int k z) ⟨hg,H6 _,fun i v hi=>?_⟩ (by simp [bM,eI]) (fun i y v hy hv=>?_)
 ·simp only [List.getElem?_map,Option.map_eq_some_iff] at hi
  obtain ⟨z,hz',rfl⟩:=hi
  have hi2:i<zs.length:=(List.getElem?_eq_some_iff.1 hz').1
  rw [Nat.zero_add,h i hi2]
  simp [List.getD,hz']
 ·simp only [List.getElem?_map,Option.map_eq_some_iff] at hv
  obtain ⟨z,hz',rfl⟩:=hv
  have:=AS (e:=eI k) (k:=0) hz' Nat.zero_lt_one
  simp [eI] at this
  simp only [eI] at hy
  rw [this] at hy
  simp at hy;subst hy
  exact .int _ _
inductive VRs (w:World) (σ:Sig) (av:Nat->Prop):List PV->List Value->Prop where
 | nil:VRs w σ av [] []
 | cons {x:PV} {v:Value} {xs:List PV} {vs:List Value} (h:VR w σ av x v) (r:VRs w σ av xs vs):VRs w σ av (x::xs) (v::vs)
theorem VRs.get {w:World} {σ:Sig} {av:Nat->Prop} {xs:List PV} {cs:List Value} (h:VRs w σ av xs cs):xs.length=cs.length/\∀(i:Nat) (x:PV) (v:Value),xs[i]?=some x->cs[i]?=some v->VR w σ av x v:=by
 induction h with
 | nil=>simp
 | cons h _ ih=>
  refine ⟨by simp [ih.1],fun i x v hx hv=>?_⟩
  cases i with
  | zero=>simp at hx hv;subst hx;subst hv;exact h
  | succ i=>exact ih.2 i x v (by simpa using hx) (by simpa using hv)
theorem DO {E:Env} {f:FuncId} {args:List PV} (h:Pure E f args (.bool true)) (w:World) (cargs:List Value) (hv:VRs w sig0 av0 args cargs)
  (hg:∀g cells,lget E.G g=some cells->VR w sig0 av0 (.rop cells 0) (.pointer (some ⟨g,0,none⟩))) :
  Calls E.P f cargs.toArray w fun e w'=>e = .returned (.bool true)/\Below w.heap.size w w':=
 FL h w cargs.toArray (by simpa using hv.get.1.symm) (fun i x u hx hu=>hv.get.2 i x u hx (by simpa using hu)) hg
end Go.SH
namespace Go.SH
theorem E5 (k:IntKind) (zs:List Int):fl (eI k) zs=zs.map (PV.int k):=by
 induction zs with
 | nil=>rfl
 | cons z r ih=>rw [eZ,ih];rfl
theorem H3 {α:Type} (s:Nat):∀(n:Nat) (cs:List α) (f:Nat->List α),cs.length=n*s->(∀i,i<n->(cs.drop (i*s)).take s=f i)->cs=(List.range n).flatMap f
 | 0,cs,f,h,_=>by simp at h;simp [h]
 | n+1,cs,f,h,hf=>by
  have h0:=hf 0 (by omega)
  simp only [Nat.zero_mul,List.drop_zero] at h0
  have ih:=H3 s n (cs.drop s) (fun i=>f (i+1)) (by rw [List.length_drop,h,Nat.succ_mul];omega) (fun i hi=>by
   have:=hf (i+1) (by omega)
   rw [List.drop_drop,<-this];congr 2;rw [Nat.succ_mul];omega)
  rw [List.range_succ_eq_map,List.flatMap_cons,List.flatMap_map,<-ih,<-h0,List.take_append_drop]
theorem yS {H:Type} {enc:TypeId×Value->H} {P:Program} {w:World} {base:Nat} {sp:Nat->Bool} {held:Bool} {fuel:Nat} {t e e2:TypeId} {n s:Nat} {k:IntKind} {cs:List Value} {rows:List (List Int)} {p:List MemPlace}
  (ht:P.underlying t=some (.array n e)) (he:P.underlying e=some (.array s e2)) (he2:P.underlying e2=some (.int k)) (hc2:P.cellsOf e2=1) (hce:P.cellsOf e=s) (hct:P.cellsOf t=n*s)
  (h:DataW.trod enc P w base sp held fuel t cs=some (.agg (rows.map (Lib.tabData k)),p)):cs=(List.range n).flatMap fun i=>(rows.getD i []).map (Value.int k):=by
 cases fuel with
 | zero=>simp [DataW.trod] at h
 | succ fuel=>
  simp only [DataW.trod,ht,hce,hct] at h
  split at h
  ·rename_i hl
   obtain ⟨xs,hm,hx⟩:=Option.map_eq_some_iff.1 h
   have hxs:xs.map (·.1)=rows.map fun zs=>(Lib.tabData k zs:DataW H):=by
    have:=congrArg Prod.fst hx
    simpa using this
   have hxl:xs.length=n:=by simpa using Lib.mapM_length hm
   have hrl:rows.length=n:=by
    have:=congrArg List.length hxs
    simp at this
    omega
   refine H3 s n cs _ hl fun i hi=>?_
   obtain ⟨b,hb,hf⟩:=Lib.mapM_at hm i i (by simp [hi])
   have h2:(xs.map (·.1))[i]?=some b.1:=by simp [hb]
   rw [hxs] at h2
   simp only [List.getElem?_map,Option.map_eq_some_iff] at h2
   obtain ⟨zs,hz,hzb⟩:=h2
   obtain ⟨b1,b2⟩:=b
   simp only at hzb;subst hzb
   rw [List.getD_eq_getElem?_getD,hz,Option.getD_some]
   exact Lib.cells_of_tab he he2 hc2 hce hf
  ·cases h
end Go.SH
namespace Go.Proofs.YtfadcigdmddndaaGreatDoor
open Go.ChangeShapes Go.WideShapes Go.ChangeAt Go.RowKit Go.Joins Go.SH
theorem own:ownKnob Tryz.prog.godebug=none:=by kernel_rfl
theorem AJ:laidOutB Tryz.prog=true:=by kernel_rfl
def zC:List Int:=bf.flatMap fun e=>[e.1,e.2.1,e.2.2]
def zB:List Int:=lV.map fun x=>(x.toNat:Int)
def zt:List (String×DataW Unit):=[("math/bits.deBruijn64tab",Rows.laid_math_bits_deBruijn64tab),("oriel/cols.bounds",Rows.laid_oriel_cols_bounds)]
theorem gB:Tryz.prog.globalNamed "oriel/cols.bounds" = some 0:=by kernel_rfl
theorem tB:(Tryz.prog.globals[0]?).map (·.type)=some 122:=by kernel_rfl
theorem gD:Tryz.prog.globalNamed "math/bits.deBruijn64tab" = some 1:=by kernel_rfl
theorem tD:(Tryz.prog.globals[1]?).map (·.type)=some 151:=by kernel_rfl
def JU:List (List Int):=bf.map fun e=>[e.1,e.2.1,e.2.2]
theorem CU:(Rows.laid_oriel_cols_bounds:DataW Unit) = .agg (JU.map (Lib.tabData .i32)):=by kernel_rfl
theorem HX:(Rows.laid_math_bits_deBruijn64tab:DataW Unit)=Lib.tabData .u8 zB:=by kernel_rfl
theorem CV:((List.range 22).flatMap fun i=>(JU.getD i []).map (Value.int .i32))=zC.map fun z=>Value.int .i32 z:=by kernel_rfl
theorem HH (os:Os) (args:Array Value):laidMetH Tryz.prog zt ((World.doorLaid Tryz.prog 400 os).forCall (fun _ _=>0) ⟨#[],args,[]⟩).memory:=
 laidMetH_of_parts3 (fuel:=8) (laidMet_of_run' 8 (by kernel_rfl) (by kernel_rfl)) (by kernel_rfl) (by kernel_rfl)
theorem IR {W:World} (h:laidMetH Tryz.prog zt W):(∀i,i<zC.length->W.cell? ⟨0,i,none⟩=some (.int .i32 (zC.getD i 0)))/\∀i,i<zB.length->W.cell? ⟨1,i,none⟩=some (.int .u8 (zB.getD i 0)):=by
 rw [MakeChecks.laidMetH_plain _ _ _ (by kernel_rfl)] at h
 obtain ⟨ps,⟨g0,t0,cs0,f0,p0,q0,hg0,ht0,hv0,hd0,⟨g1,t1,cs1,f1,p1,q1,hg1,ht1,hv1,hd1,_,_⟩,_⟩,_,_⟩:=h
 obtain rfl:=Option.some.inj (gD.symm.trans hg0)
 obtain rfl:=Option.some.inj (tD.symm.trans ht0)
 obtain rfl:=Option.some.inj (gB.symm.trans hg1)
 obtain rfl:=Option.some.inj (tB.symm.trans ht1)
 rw [HX] at hd0
 rw [CU] at hd1
 have hc0:cs0.toList=zB.map fun z=>Value.int .u8 z:=Lib.cells_of_tab (k:=.u8) Tryz.underlying151 Tryz.underlying5 (by kernel_rfl) (by kernel_rfl) hd0
 have hc1:cs1.toList=zC.map fun z=>Value.int .i32 z:=(yS (k:=.i32) Tryz.underlying122 Tryz.underlying121 Tryz.underlying21 (by kernel_rfl) (by kernel_rfl) (by kernel_rfl) hd1).trans CV
 have i0:Lib.TabIs Tryz.prog W "math/bits.deBruijn64tab" .u8 zB:=by unfold Lib.TabIs;rw [hv0,<-hc0]
 have i1:Lib.TabIs Tryz.prog W "oriel/cols.bounds" .i32 zC:=by unfold Lib.TabIs;rw [hv1,<-hc1]
 exact ⟨fun i hi=>i1.cell gB i hi,fun i hi=>i0.cell gD i hi⟩
theorem KV:(gtPV GT)=[(0,zC.map (PV.int .i32)),(1,zB.map (PV.int .u8))]:=by kernel_rfl
theorem Ei {W:World} (h:laidMetH Tryz.prog zt W):∀g cells,lget En.G g=some cells->VR W sig0 av0 (.rop cells 0) (.pointer (some ⟨g,0,none⟩)):=by
 intro g cells hg
 obtain ⟨h1,h2⟩:=IR h
 have hz:∀(g:Nat) (v:Value),W.cell? ⟨g,0,none⟩=some v->g<W.heap.size:=by
  intro g v hv
  rcases Nat.lt_or_ge g W.heap.size with h' | h'
  ·exact h'
  ·simp [World.cell?,Array.getElem?_eq_none h'] at hv
 have hg':lget (gtPV GT) g=some cells:=hg
 rw [KV] at hg'
 simp only [lget] at hg'
 split at hg'
 ·rename_i e;subst e
  simp at hg';subst hg'
  have:=Gu (k:=.i32) (hz 0 _ (h1 0 (by decide))) h1
  rw [E5] at this;exact this
 ·split at hg'
  ·rename_i e;subst e
   simp at hg';subst hg'
   have:=Gu (k:=.u8) (hz 1 _ (h2 0 (by decide))) h2
   rw [E5] at this;exact this
  ·simp at hg'
end Go.Proofs.YtfadcigdmddndaaGreatDoor
namespace Go.SH
def ET.wf:(t:ET)->t.T->Prop
 | .ti k,x=>(Lit.int k x).wf=true
 | .tp a c,x=>a.wf x.1/\c.wf x.2
 | .tl t,l=>(∀x∈l,t.wf x)/\l.length<=maxLen
 | _,_=>True
def Cj (P:Program) (tot:Nat):Nat->List Field->Bool
 | o,[]=>o==tot
 | o,f::r=>(f.offset==o)&&Cj P tot (o+P.cellsOf f.type) r
inductive Fit (P:Program):ET->List TypeId->Prop where
 | int {k:IntKind} {τ:TypeId} (h:P.underlying τ=some (.int k)):Fit P (.ti k) [τ]
 | u8 {τ:TypeId} (h:P.underlying τ=some (.int .u8)):Fit P .tu [τ]
 | bool {τ:TypeId} (h:P.underlying τ=some .bool):Fit P .tb [τ]
 | slice {t:ET} {τ e:TypeId} (h:P.underlying τ=some (.slice e)) (hs:P.cellsOf e=t.sz) (f:Fit P t [e]):Fit P (.tl t) [τ]
 | struct {t:ET} {τ:TypeId} {fs:Array Field} (h:P.underlying τ=some (.struct fs)) (ho:Cj P (P.cellsOf τ) 0 fs.toList=true) (f:Fit P t (fs.toList.map (·.type))):Fit P t [τ]
 | array {t:ET} {τ e:TypeId} {n:Nat} (h:P.underlying τ=some (.array n e)) (hz:P.cellsOf τ=n*P.cellsOf e) (f:Fit P t (List.replicate n e)):Fit P t [τ]
 | cons {a c:ET} {τ τ':TypeId} {τs:List TypeId} (f:Fit P a [τ]) (g:Fit P c (τ'::τs)):Fit P (.tp a c) (τ::τ'::τs)
section
variable {H:Type} {enc:TypeId×Value->H} {P:Program} {w:World} {base:Nat} {sp:Nat->Bool} {held:Bool}
def C0 (enc:TypeId×Value->H) (P:Program) (w:World) (base:Nat) (sp:Nat->Bool) (held:Bool):List TypeId->List Value->Prop
 | [],cs=>cs=[]
 | τ::r,cs=>(∃fuel x,DataW.trod enc P w base sp held fuel τ (cs.take (P.cellsOf τ))=some x)/\C0 enc P w base sp held r (cs.drop (P.cellsOf τ))
theorem lN {τ:TypeId} {cs:List Value} (h:C0 enc P w base sp held [τ] cs):∃fuel x,DataW.trod enc P w base sp held fuel τ cs=some x:=by
 obtain ⟨⟨f,x,hx⟩,hd⟩:=h
 have hd':cs.drop (P.cellsOf τ)=[]:=hd
 have:cs.take (P.cellsOf τ)=cs:=List.take_of_length_le (by simpa using hd')
 rw [this] at hx
 exact ⟨f,x,hx⟩
theorem VRs.append {w:World} {σ:Sig} {av:Nat->Prop} {xs ys:List PV} {cs ds:List Value} (h:VRs w σ av xs cs) (h':VRs w σ av ys ds):VRs w σ av (xs++ys) (cs++ds):=by
 induction h with
 | nil=>exact h'
 | cons h _ ih=>exact .cons h ih
theorem sS {n:Nat} {tot:Nat} {cs:List Value} (hl:cs.length=tot):∀(l:List Field) (o:Nat),Cj P tot o l=true->(∀f∈l,∃x,DataW.trod enc P w base sp held n f.type ((cs.drop f.offset).take (P.cellsOf f.type))=some x) ->
  C0 enc P w base sp held (l.map (·.type)) (cs.drop o)
 | [],o,ho,_=>by
  have:o=tot:=by simpa [Cj] using ho
  show cs.drop o=[]
  rw [this,<-hl,List.drop_length]
 | f::r,o,ho,h=>by
  simp only [Cj,Bool.and_eq_true,beq_iff_eq] at ho
  obtain ⟨rfl,ho⟩:=ho
  obtain ⟨x,hx⟩:=h f (by simp)
  refine ⟨⟨n,x,hx⟩,?_⟩
  have:=sS hl r _ ho (fun g hg=>h g (by simp [hg]))
  rw [List.drop_drop]
  exact this
theorem zn {m n:Nat} {e:TypeId} {cs:List Value} (hl:cs.length=n*P.cellsOf e) (h:∀i,i<n->∃x,DataW.trod enc P w base sp held m e ((cs.drop (i*P.cellsOf e)).take (P.cellsOf e))=some x) :
  ∀(k i:Nat),i+k=n->C0 enc P w base sp held (List.replicate k e) (cs.drop (i*P.cellsOf e))
 | 0,i,hi=>by
  have:i=n:=by omega
  subst this
  show cs.drop _=[]
  rw [<-hl,List.drop_length]
 | k+1,i,hi=>by
  obtain ⟨x,hx⟩:=h i (by omega)
  refine ⟨⟨m,x,hx⟩,?_⟩
  have:=zn hl h k (i+1) (by omega)
  rw [List.drop_drop]
  rw [Nat.succ_mul] at this
  exact this
theorem yb {t:ET} {s β:Nat}:∀(n off:Nat),(∀i,i<n->∃(v:t.T) (cs:List Value),cs.length=s/\(∀j,j<s->w.cell? ⟨β,off+(i*s+j),none⟩=cs[j]?)/\VRs w sig0 av0 ((el t).pv v) cs/\t.wf v) ->
  ∃(l:List t.T) (cs:List Value),l.length=n/\cs.length=n*s/\(∀j,j<n*s->w.cell? ⟨β,off+j,none⟩=cs[j]?)/\VRs w sig0 av0 (fl (el t) l) cs/\∀x∈l,t.wf x
 | 0,off,_=>⟨[],[],rfl,by simp,fun j hj=>by simp at hj,.nil,fun x hx=>by simp at hx⟩
 | n+1,off,h=>by
  obtain ⟨v,cs,h1,h2,h3,h4⟩:=h 0 (by omega)
  obtain ⟨l,ds,k1,k2,k3,k4,k5⟩:=yb n (off+s) fun i hi=>by
   obtain ⟨v',cs',q1,q2,q3⟩:=h (i+1) (by omega)
   refine ⟨v',cs',q1,fun j hj=>?_,q3⟩
   rw [<-q2 j hj]
   congr 2
   rw [Nat.succ_mul];omega
  refine ⟨v::l,cs++ds,by simp [k1],by rw [List.length_append,h1,k2,Nat.succ_mul];omega,fun j hj=>?_,by rw [eZ];exact h3.append k4,fun x hx=>?_⟩
  ·by_cases hj2:j<s
   ·rw [List.getElem?_append_left (by omega),<-h2 j hj2]
    congr 2;omega
   ·rw [List.getElem?_append_right (by omega),h1,<-k3 (j-s) (by rw [Nat.succ_mul] at hj;omega)]
    congr 2;omega
  ·rcases List.mem_cons.1 hx with rfl | hx
   ·exact h4
   ·exact k5 x hx
theorem Hv {t:ET} {τs:List TypeId} (hf:Fit P t τs):∀{cs:List Value},C0 enc P w base sp held τs cs->∃v:t.T,VRs w sig0 av0 ((el t).pv v) cs/\t.wf v:=by
 induction hf with
 | int h=>
  intro cs hr
  obtain ⟨f,x,hx⟩:=lN hr
  obtain ⟨n,rfl,_,hw⟩:=DataW.trod_int h hx
  exact ⟨n,.cons (.int _ _) .nil,hw⟩
 | u8 h=>
  intro cs hr
  obtain ⟨f,x,hx⟩:=lN hr
  obtain ⟨n,rfl,_,hw⟩:=DataW.trod_int h hx
  have h1:IntKind.u8.min=0:=rfl
  have h2:IntKind.u8.max=255:=rfl
  simp only [Lit.wf,Bool.and_eq_true,decide_eq_true_eq,h1,h2] at hw
  refine ⟨UInt8.ofNat n.toNat,?_,trivial⟩
  have e:((UInt8.ofNat n.toNat).toNat:Int)=n:=by rw [UInt8.toNat_ofNat'];omega
  have:(el .tu).pv (UInt8.ofNat n.toNat)=[.int .u8 n]:=by
   show [PV.int .u8 ((UInt8.ofNat n.toNat).toNat:Int)]=_
   rw [e]
  rw [this]
  exact .cons (.int _ _) .nil
 | bool h=>
  intro cs hr
  obtain ⟨f,x,hx⟩:=lN hr
  obtain ⟨b,rfl,_⟩:=DataW.trod_bool h hx
  exact ⟨b,.cons (.bool _) .nil,trivial⟩
 | @slice t τ e h hs hf ih=>
  intro cs hr
  obtain ⟨f,x,hx⟩:=lN hr
  rcases DataW.trod_slice h hx with ⟨rfl,_⟩ | ⟨a,len,cap,elems,rest,n,_,rfl,_,hb,hl,hm,hlen,hel,_⟩
  ·exact ⟨[],.cons (.roE _ _ (by simp)) .nil,fun x hx=>by simp at hx,Nat.zero_le _⟩
  ·by_cases h0:len=0
   ·subst h0
    exact ⟨[],.cons (.roE _ _ (by simp)) .nil,fun x hx=>by simp at hx,Nat.zero_le _⟩
   ·have each:∀i,i<len->∃(v:t.T) (ds:List Value),ds.length=t.sz/\(∀j,j<t.sz->w.cell? ((a.add (i*t.sz)).add j)=ds[j]?)/\VRs w sig0 av0 ((el t).pv v) ds/\t.wf v:=by
     intro i hi
     have k:=hel i hi
     rw [List.getElem?_eq_getElem (by omega)] at k
     obtain ⟨ds,d1,d2⟩:=Option.bind_eq_some_iff.1 k
     obtain ⟨_,e1,e2⟩:=World.cells?_some d1
     rw [hs] at e1 e2
     obtain ⟨v,v1,v2⟩:=ih (cs:=ds) ⟨⟨n,_,by rw [List.take_of_length_le (by omega)];exact d2⟩,by show ds.drop _=[];rw [hs,<-e1,List.drop_length]⟩
     exact ⟨v,ds,e1,e2,v1,v2⟩
    obtain ⟨b,off,spot⟩:=a
    obtain ⟨v0,ds0,q1,q2,_⟩:=each 0 (by omega)
    have hpos:0<t.sz:=t.sz_pos
    have c0:=q2 0 hpos
    rw [List.getElem?_eq_getElem (by omega)] at c0
    have hspot:spot=none:=by simpa [Addr.add] using World.cell?_spot c0
    subst hspot
    obtain ⟨l,ds,l1,l2,l3,l4,l5⟩:=yb (w:=w) (t:=t) (s:=t.sz) (β:=b) len off fun i hi=>by
     obtain ⟨v,ds,q1,q2,q3⟩:=each i hi
     refine ⟨v,ds,q1,fun j hj=>?_,q3⟩
     rw [<-q2 j hj,Go.WideShapes.add_plain,Go.WideShapes.add_plain,Nat.add_assoc]
    have hlt:b<w.heap.size:=by
     have:=l3 0 (Nat.mul_pos (by omega) hpos)
     have hds:0<ds.length:=by rw [l2];exact Nat.mul_pos (by omega) hpos
     rw [List.getElem?_eq_getElem hds] at this
     rcases Nat.lt_or_ge b w.heap.size with h' | h'
     ·exact h'
     ·simp [World.cell?,Array.getElem?_eq_none h'] at this
    refine ⟨l,.cons ?_ .nil,l5,by omega⟩
    show VR w sig0 av0 (.ro (fl (el t) l) l.length none) _
    rw [l1]
    refine .ro ds ⟨hlt,H6 _,fun i v hi=>?_⟩ l4.get.1 l4.get.2 hl (by simp)
    have:i<ds.length:=(List.getElem?_eq_some_iff.1 hi).1
    rw [l3 i (by omega),hi]
 | struct h ho hf ih=>
  intro cs hr
  obtain ⟨f,x,hx⟩:=lN hr
  obtain ⟨xs,n,_,_,hl,hxl,hfs⟩:=DataW.trod_struct h hx
  refine ih ?_
  have:=sS (enc:=enc) (P:=P) (w:=w) (base:=base) (sp:=sp) (held:=held) (n:=n) hl _ 0 ho fun g hg=>by
   obtain ⟨i,hi,he⟩:=List.getElem_of_mem hg
   have hi':i<xs.length:=by rw [hxl];simpa using hi
   refine ⟨xs[i],?_⟩
   rw [hfs i g (by rw [<-he];simp at hi ⊢),List.getElem?_eq_getElem hi']
  simpa using this
 | @array t τ e n h hz hf ih=>
  intro cs hr
  obtain ⟨f,x,hx⟩:=lN hr
  obtain ⟨xs,m,_,_,hl,hxl,hfs⟩:=DataW.trod_array h hx
  refine ih ?_
  have:=zn (enc:=enc) (w:=w) (base:=base) (sp:=sp) (held:=held) (m:=m) (hl.trans hz) (fun i hi=>⟨xs[i]'(by omega),by rw [hfs i hi,List.getElem?_eq_getElem (by omega)]⟩) n 0 (by omega)
  simpa using this
 | @cons a c τ τ' τs hf hg ih1 ih2=>
  intro cs hr
  obtain ⟨⟨f,x,hx⟩,hd⟩:=hr
  by_cases hle:P.cellsOf τ<=cs.length
  ·obtain ⟨v,v1,v2⟩:=ih1 (cs:=cs.take (P.cellsOf τ)) ⟨⟨f,x,by rw [List.take_take,Nat.min_self];exact hx⟩,by show List.drop _ _=[];rw [List.drop_take,Nat.sub_self,List.take_zero]⟩
   obtain ⟨u,u1,u2⟩:=ih2 hd
   refine ⟨(v,u),?_,v2,u2⟩
   show VRs w sig0 av0 ((el a).pv v++(el c).pv u) cs
   have:=v1.append u1
   rwa [List.take_append_drop] at this
  ·have e1:cs.take (P.cellsOf τ)=cs:=List.take_of_length_le (by omega)
   obtain ⟨v,v1,v2⟩:=ih1 (cs:=cs) ⟨⟨f,x,hx⟩,by show cs.drop _=[];exact List.drop_eq_nil_of_le (by omega)⟩
   obtain ⟨u,u1,u2⟩:=ih2 hd
   rw [List.drop_eq_nil_of_le (by omega)] at u1
   refine ⟨(v,u),?_,v2,u2⟩
   show VRs w sig0 av0 ((el a).pv v++(el c).pv u) cs
   have:=v1.append u1
   rwa [List.append_nil] at this
end
end Go.SH
set_option maxRecDepth 100000
namespace Go.Proofs.YtfadcigdmddndaaGreatDoor
open Go.ChangeShapes Go.WideShapes Go.ChangeAt Go.RowKit Go.Joins Go.SH
theorem DS:Fit Tryz.prog dP [47]:=
 .struct Tryz.underlying47 (by kernel_rfl) (.cons (.int Tryz.underlying44) (.cons (.int Tryz.underlying3) (.cons (.int Tryz.underlying3) (.cons (.int Tryz.underlying21)
  (.cons (.slice Tryz.underlying45 (by kernel_rfl) (.int Tryz.underlying3)) (.slice Tryz.underlying34 (by kernel_rfl) (.int Tryz.underlying21)))))))
end Go.Proofs.YtfadcigdmddndaaGreatDoor
set_option maxRecDepth 100000
namespace Go.SH
section
variable {H:Type} {enc:TypeId×Value->H} {P:Program} {w:World} {base:Nat} {sp:Nat->Bool} {held:Bool}
theorem MU {t:ET} {τ:TypeId} (hf:Fit P t [τ]) {cs:Array Value} (hz:cs.size=P.cellsOf τ) {d:DataW H} {p:List MemPlace} (h:DataW.Trod enc P w base sp held τ (.agg cs) d p) :
  ∃x:t.T,VR w sig0 av0 (.agg ((el t).pv x)) (.agg cs)/\VRs w sig0 av0 ((el t).pv x) cs.toList/\t.wf x:=by
 obtain ⟨fuel,hf'⟩:=h
 have hc:(Value.agg cs).cells.toList=cs.toList:=by simp [Value.cells]
 rw [hc] at hf'
 have hl:cs.toList.length=P.cellsOf τ:=by simpa using hz
 obtain ⟨x,h1,h2⟩:=Hv hf (cs:=cs.toList) ⟨⟨fuel,_,by rw [List.take_of_length_le (by omega)];exact hf'⟩,by show List.drop _ _=[];exact List.drop_eq_nil_of_le (by omega)⟩
 refine ⟨x,?_,h1,h2⟩
 have:=VR.agg (w:=w) (σ:=sig0) (av:=av0) cs.toList h1.get.1 h1.get.2
 simpa using this
theorem M4 {τ:TypeId} {fs:Array Field} {v:Value} (h:Value.okWide P w .any base τ v) (hu:P.underlying τ=some (.struct fs)):∃cs,v = .agg cs/\cs.size=P.cellsOf τ:=by
 unfold Value.okWide at h
 rw [hu] at h
 obtain ⟨cs,h1,h2,_⟩:=h
 exact ⟨cs,h1,h2⟩
theorem MD {M:Nat}:∀{ts:List TypeId} {ds:List (DataW H)},(DataW.weightsEach P ts ds).all (·<=M)=true->∀(i:Nat) (t:TypeId) (d:DataW H),ts[i]?=some t->ds[i]?=some d->(d.weights P t).all (·<=M)=true
 | [],ds,h,i,t,d,h1,h2=>by simp at h1
 | a::ts,[],h,i,t,d,h1,h2=>by simp at h2
 | a::ts,b::ds,h,i,t,d,h1,h2=>by
  simp only [DataW.weightsEach,List.all_append,Bool.and_eq_true] at h
  cases i with
  | zero=>simp at h1 h2;subst h1;subst h2;exact h.1
  | succ i=>exact MD h.2 i t d (by simpa using h1) (by simpa using h2)
theorem M7 {τ e:TypeId} {M n:Nat} {cells:List PV} {v:Value} (hu:P.underlying τ=some (.slice e)) (hv:VR w sig0 av0 (.ro cells n none) v) {fuel:Nat} {y:DataW H×List MemPlace}
  (ht:DataW.trod enc P w base sp held fuel τ [v]=some y) (hw:(y.1.weights P τ).all (·<=M)=true):n*P.bytesOf e<=M:=by
 rcases DataW.trod_slice hu ht with ⟨hcs,_⟩ | ⟨a,len,cap,elems,rest,m,_,hcs,rfl,_,_,_,hlen,_⟩
 ·obtain rfl:v = .slice none 0 0:=by simpa using hcs
  cases hv
  simp
 ·obtain rfl:v = .slice (some a) len cap:=by simpa using hcs
  have hn:n=len:=by cases hv <;> rfl
  subst hn
  unfold DataW.weights at hw
  rw [hu] at hw
  simp only [List.length_map,List.all_cons,Bool.and_eq_true,decide_eq_true_eq,hlen] at hw
  exact Nat.le_trans (Nat.mul_le_mul_right _ (Nat.le_add_right _ _)) hw.1
end
end Go.SH
namespace Go.Proofs.YtfadcigdmddndaaGreatDoor
open Go.ChangeShapes Go.WideShapes Go.ChangeAt Go.RowKit Go.Joins Go.SH
theorem M5:Fit Tryz.prog bg [27]:=.struct Tryz.underlying27 (by kernel_rfl) (.cons (.int Tryz.underlying3) (.cons (.int Tryz.underlying3) (.int Tryz.underlying3)))
theorem Nf:Fit Tryz.prog (.tp (.ti .i32) (.ti .i32)) [85]:=.array (n:=2) Tryz.underlying85 (by kernel_rfl) (.cons (.int Tryz.underlying21) (.int Tryz.underlying21))
theorem Nl:Fit Tryz.prog (.tp (.ti .i32) aa) [87]:=.struct Tryz.underlying87 (by kernel_rfl) (.cons (.int Tryz.underlying21) (.cons Nf (.cons (.int Tryz.underlying3) M5)))
theorem Na:Fit Tryz.prog (.tl (.tl (.tp (.ti .i32) aa))) [25]:=.slice Tryz.underlying25 (by kernel_rfl) (.slice Tryz.underlying75 (by kernel_rfl) Nl)
abbrev Nh:ET:=.tp (.ti .i64) (.tp (.ti .i64) (.tp bg (.tp .tb .tb)))
theorem M9:Fit Tryz.prog Nh [29]:=.struct Tryz.underlying29 (by kernel_rfl) (.cons (.int Tryz.underlying3) (.cons (.int Tryz.underlying3) (.cons M5 (.cons (.bool Tryz.underlying4) (.bool Tryz.underlying4)))))
theorem Nd:Fit Tryz.prog (.tp Nh Nh) [30]:=.array (n:=2) Tryz.underlying30 (by kernel_rfl) (.cons M9 M9)
theorem Nk:Fit Tryz.prog (.tp (.ti .u64) fa) [33]:=.array (n:=4) Tryz.underlying33 (by kernel_rfl) (.cons (.int Tryz.underlying31) (.cons (.int Tryz.underlying31) (.cons (.int Tryz.underlying31) (.int Tryz.underlying31))))
abbrev scrE:ET:=.tp (.ti .i64) (.tp (.ti .i64) bJ)
theorem MV:Fit Tryz.prog scrE [36]:=
 .struct Tryz.underlying36 (by kernel_rfl) (.cons (.int Tryz.underlying3) (.cons (.int Tryz.underlying3) (.cons Na (.cons Na (.cons (.int Tryz.underlying3) (.cons (.int Tryz.underlying3) (.cons (.bool Tryz.underlying4)
  (.cons M5 (.cons (.int Tryz.underlying3) (.cons (.int Tryz.underlying3) (.cons (.int Tryz.underlying3) (.cons Nd (.cons Nk (.slice Tryz.underlying34 (by kernel_rfl) (.int Tryz.underlying21)))))))))))))))
theorem MQ {H:Type} {enc:TypeId×Value->H} {W:World} {sp:Nat->Bool} {cs:Array Value} {d:DataW H} {p:List MemPlace} (h:DataW.Trod enc Tryz.prog W 0 sp true 36 (.agg cs) d p)
  (hw:(d.weights Tryz.prog 36).all (·<=reachBytes)=true) {s:scrE.T} (hs:VRs W sig0 av0 ((el scrE).pv s) cs.toList):s.2.2.1.length*24<=reachBytes/\s.2.2.2.1.length*24<=reachBytes:=by
 obtain ⟨fuel,hf⟩:=h
 have hc:(Value.agg cs).cells.toList=cs.toList:=by simp [Value.cells]
 rw [hc] at hf
 obtain ⟨xs,n,_,he,hl,hxl,hfs⟩:=DataW.trod_struct Tryz.underlying36 hf
 obtain rfl:d = .agg (xs.map (·.1)):=congrArg Prod.fst he
 have h32:cs.toList.length=32:=hl.trans (by kernel_rfl)
 unfold DataW.weights at hw
 rw [Tryz.underlying36] at hw
 have fld:∀(k:Nat) (e:TypeId) (f:Field) (hk:k<32) (hi:k<14) (l:Nat) (cells:List PV),f.offset=k->f.type=25->(Tryz.prog.underlying 25=some (.slice 75)) ->
   DataW.trod enc Tryz.prog W 0 sp true n f.type ((cs.toList.drop f.offset).take (Tryz.prog.cellsOf f.type))=xs[k]?->(xs[k]?.map fun y=>(y.1.weights Tryz.prog 25).all (·<=reachBytes))=some true ->
   ((el scrE).pv s)[k]?=some (.ro cells l none)->l*24<=reachBytes:=by
  intro k e f hk hi l cells ho ht hu htr hwt hpv
  rw [ho,ht] at htr
  have h1:Tryz.prog.cellsOf 25=1:=by kernel_rfl
  have hb:Tryz.prog.bytesOf 75=24:=by kernel_rfl
  have hd:(cs.toList.drop k).take 1=[cs.toList[k]'(by omega)]:=by
   rw [List.drop_eq_getElem_cons (by omega)];rfl
  rw [h1,hd] at htr
  cases hx:xs[k]? with
  | none=>rw [hx] at hwt;simp at hwt
  | some y=>
   rw [hx] at htr hwt
   have:=M7 hu (hs.get.2 k _ _ hpv (List.getElem?_eq_getElem (by omega))) htr (by simpa using hwt)
   rwa [hb] at this
 have hx:∀k,k<14->∀t,(([3,3,25,25,3,3,4,27,3,3,3,30,33,34]:List TypeId)[k]?=some t)->(xs[k]?.map fun y=>(y.1.weights Tryz.prog t).all (·<=reachBytes))=some true:=by
  intro k hk t ht
  have hk':k<xs.length:=by rw [hxl];exact hk
  rw [List.getElem?_eq_getElem hk']
  have:=MD hw k t (xs[k].1) ht (by rw [List.getElem?_map,List.getElem?_eq_getElem hk'];rfl)
  simpa using this
 exact ⟨fld 2 75 _ (by omega) (by omega) _ _ rfl rfl Tryz.underlying25 (hfs 2 _ rfl) (hx 2 (by omega) 25 rfl) rfl,fld 3 75 _ (by omega) (by omega) _ _ rfl rfl Tryz.underlying25 (hfs 3 _ rfl) (hx 3 (by omega) 25 rfl) rfl⟩
end Go.Proofs.YtfadcigdmddndaaGreatDoor
set_option maxRecDepth 100000
namespace Go.Proofs.YtfadcigdmddndaaGreatDoor
open Go Go.ChangeShapes Go.WideShapes Go.ChangeAt Go.RowKit Go.Joins Go.SH
theorem Np {s:scrE.T} (h:scrE.wf s):bk (Sc.of s).tabs:=by
 obtain ⟨_,_,_,_,_,_,_,_,_,_,_,_,⟨t1,t2,t3,t4⟩,_⟩:=h
 have e:∀{x:Int},ET.wf (.ti .u64) x->u64R x:=by
  intro x hx
  have hx':(Lit.int .u64 x).wf=true:=hx
  have h1:IntKind.u64.min=0:=rfl
  have h2:IntKind.u64.max=18446744073709551615:=rfl
  simp only [Lit.wf,Bool.and_eq_true,decide_eq_true_eq,h1,h2] at hx'
  unfold u64R;omega
 exact ⟨e t1,e t2,e t3,e t4⟩
theorem Hj (a0:scrE.T) (a1:scrE.T) (a2:dP.T) (b0:a0.2.2.1.length*24<=reachBytes) (b1:a0.2.2.2.1.length*24<=reachBytes) (b2:a1.2.2.1.length*24<=reachBytes) (ht:scrE.wf a0) :
  Pure En 4 [.agg ((el scrE).pv a0),.agg ((el scrE).pv a1),.agg ((el dP).pv a2)] (.bool true):=
 MK.ok (a0,a1,a2) true (No (s:=Sc.of a0) (o:=a1) (ch:=a2) (Nat.le_trans b0 (by decide)) (Nat.le_trans b1 (by decide)) (by have:reachBytes=140737488351232:=rfl;rw [this] at b2;unfold big;omega) (Np ht))
theorem DN (os:Os) (started:os.Started) (H:Type) (enc:TypeId×Value->H) :
  ReturnsInHanded {} Tryz.checked os 4 .any (fun w args=>(Rows.screenAnySpec.pre enc Tryz.prog Tryz.f4 [] false w args/\laidMetH Tryz.prog zt w)/\sizedMet enc Tryz.prog Tryz.f4 (OpenSpec.ofChange Rows.screenAnySpec) false w args)
   (Rows.screenAnySpec.post enc Tryz.prog Tryz.f4 false true false false):=by
 refine returnsInHanded_of_change_and (C:=Tryz.checked) (X:=fun w _=>laidMetH Tryz.prog zt w) (fun _ _ _ hh h=>h.of_heap hh) own started (by kernel_rfl) Tryz.func4
  (ChangeSpec.witness_shaped (enc:=enc) (C:=Tryz.checked) (os:=os) (X:=fun w _=>laidMetH Tryz.prog zt w) false (World.doorLaid Tryz.prog 400 os) #[.agg #[.int .i64 0,.int .i64 0,.slice none 0 0,.slice none 0 0,.int .i64 0,.int .i64 0,.bool false,.int .i64 0,.int .i64 0,.int .i64 0,.int .i64 0,.int .i64 0,.int .i64 0,.int .i64 0,.int .i64 0,.int .i64 0,.int .i64 0,.int .i64 0,.bool false,.bool false,.int .i64 0,.int .i64 0,.int .i64 0,.int .i64 0,.int .i64 0,.bool false,.bool false,.int .u64 0,.int .u64 0,.int .u64 0,.int .u64 0,.slice none 0 0],.agg #[.int .i64 0,.int .i64 0,.slice none 0 0,.slice none 0 0,.int .i64 0,.int .i64 0,.bool false,.int .i64 0,.int .i64 0,.int .i64 0,.int .i64 0,.int .i64 0,.int .i64 0,.int .i64 0,.int .i64 0,.int .i64 0,.int .i64 0,.int .i64 0,.bool false,.bool false,.int .i64 0,.int .i64 0,.int .i64 0,.int .i64 0,.int .i64 0,.bool false,.bool false,.int .u64 0,.int .u64 0,.int .u64 0,.int .u64 0,.slice none 0 0],.agg #[.int .i64 0,.int .i64 0,.int .i64 0,.int .i32 0,.slice none 0 0,.slice none 0 0]] 8 rfl (World.shaped_of_RefB (by kernel_rfl) (by kernel_rfl)) (by kernel_rfl) (by kernel_rfl) (by kernel_rfl) (HH os _)) ?_
 intro W base args ds gs before hval0 hW _ hsz0 hL _
 have hval:∀(j:Nat) t v,Tryz.f4.params[j]?=some t->args[j]?=some v->Value.okWide Tryz.prog W .any base t v:=hval0
 have hW':=hW
 obtain ⟨p,q,hA0,hV,rfl,hfz,hnd⟩:=hW
 have hA:DataW.TrodAll enc Tryz.prog W 0 (fun _=>true) true Tryz.f4.params.toList args.toList ds p:=hA0
 have hsz:(DataW.weightsEach Tryz.prog (Tryz.f4.params.toList++Rows.screenAnySpec.plain.varTypes Tryz.prog) (ds++gs)).all (·<=reachBytes)=true:=hsz0
 rw [Tryz.params4] at hA hval hsz
 obtain ⟨v0,vs0,d0,ds0,p0,q0,ha0,rfl,rfl,h0,hA⟩:=trodAll_cons hA
 obtain ⟨v1,vs1,d1,ds1,p1,q1,rfl,rfl,rfl,h1,hA⟩:=trodAll_cons hA
 obtain ⟨v2,vs2,d2,ds2,p2,q2,rfl,rfl,rfl,h2,hA⟩:=trodAll_cons hA
 obtain ⟨rfl,rfl,rfl⟩:=trodAll_nil hA
 have hargs:args=#[v0,v1,v2]:=by
  apply Array.toList_inj.1;rw [ha0]
 subst hargs
 obtain ⟨rfl,rfl⟩:=trodVars_none hV
 have ltp:∀{t:TypeId} {v:Value} {d:DataW H} {p:List MemPlace},DataW.Trod enc Tryz.prog W 0 (fun _=>true) true t v d p->∀x∈p,x.block<W.heap.size:=fun h=>by obtain ⟨m,hm⟩:=h;exact DataW.trod_lt m _ _ _ hm
 obtain ⟨c0,rfl,z0⟩:=M4 (hval 0 36 v0 rfl rfl) Tryz.underlying36
 obtain ⟨c1,rfl,z1⟩:=M4 (hval 1 36 v1 rfl rfl) Tryz.underlying36
 obtain ⟨c2,rfl,z2⟩:=M4 (hval 2 47 v2 rfl rfl) Tryz.underlying47
 obtain ⟨n0,hv0,hs0,hw0⟩:=MU MV z0 h0
 obtain ⟨n1,hv1,hs1,hw1⟩:=MU MV z1 h1
 obtain ⟨n2,hv2,hs2,hw2⟩:=MU DS z2 h2
 have b0:=MQ h0 (MD hsz 0 36 _ rfl rfl) hs0
 have b1:=MQ h1 (MD hsz 1 36 _ rfl rfl) hs1
 refine (DO (Hj n0 n1 n2 b0.1 b0.2 b1.1 hw0) W [.agg c0,.agg c1,.agg c2]
  (.cons hv0 (.cons hv1 (.cons hv2 .nil))) (Ei hL)).mono fun e W' ⟨he,bel⟩=>?_
 subst he
 exact ⟨_,rfl,_,_,_,[],_,[],hW',trodAll_mk1 (shut_bool Tryz.underlying4 _),
  (trodAll_cons_mk (Below.trod AJ (by kernel_rfl) (of_decide_eq_true (by kernel_rfl)) h0 bel (ltp h0)) (trodAll_cons_mk (Below.trod AJ (by kernel_rfl) (of_decide_eq_true (by kernel_rfl)) h1 bel (ltp h1)) (trodAll_cons_mk (Below.trod AJ (by kernel_rfl) (of_decide_eq_true (by kernel_rfl)) h2 bel (ltp h2)) trodAll_mk0))),rfl,bel.frame _,fun h=>by cases h⟩
theorem IZ:Rows.ScreenAnySaid:=
 OpenClaim.holds_of_wide 4 Tryz.f4 rfl rfl rfl rfl rfl rfl rfl ⟨rfl,rfl,rfl,rfl,rfl⟩ rfl rfl rfl rfl rfl (by kernel_rfl) Tryz.func4 (by kernel_rfl)
  (of_decide_eq_true (by kernel_rfl)) (by unfold Func.isWrapper;first | (rw [if_pos (by decide +kernel)];kernel_rfl) | (rw [if_neg (by decide +kernel)];exact ⟨rfl,rfl⟩))
  (fun os started H enc _=>DN os started H enc)
theorem screen_any_holds:Rows.ScreenAnyCardSaid:=
 Claim7.holds_tied_plain_at .later [] [.data,.data] true (true,"bcc097a2956cdb1423c32ca55e0c9f0f2850e778494160adfd26edae83a59deb") false
  IZ (fun _ h=>by cases h) (by kernel_rfl) (fun _ h=>by cases h) screenAny_row_tie rfl ⟨rfl,rfl⟩ (by kernel_rfl) rfl
  (fun f fn hf hfn=>by
   obtain rfl:f=4:=Option.some.inj ((show Tryz.prog.funcNamed "oriel/oriellaw17.ScreenAny" = some 4 by kernel_rfl).symm.trans hf) |>.symm
   obtain rfl:fn=Tryz.f4:=(Option.some.inj (Tryz.func4.symm.trans hfn)).symm
   exact ⟨by kernel_rfl,fun j t ht=>by
    rw [Tryz.params4] at ht
    have hm:t∈[36,36,47]:=by simpa using Array.mem_of_getElem? ht
    have hall:([36,36,47].all fun u=>!Tryz.prog.wantsStandIn u)=true:=by kernel_rfl
    exact (show Tryz.prog.wantsStandIn t=false by simpa using List.all_eq_true.1 hall t hm)⟩)
  (by kernel_rfl)
end Go.Proofs.YtfadcigdmddndaaGreatDoor
