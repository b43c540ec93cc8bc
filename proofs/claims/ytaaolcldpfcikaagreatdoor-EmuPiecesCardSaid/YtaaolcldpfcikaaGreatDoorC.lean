/- Part 3 of: EmuPieces -/
import Derived.Test.YtaaolcldpfcikaaGreatDoorB
set_option linter.unusedVariables false
set_option linter.unusedSimpArgs false
set_option linter.unusedSectionVars false
noncomputable section
namespace Go.SH
variable [SentA]
theorem Dr {α:Type} {wl L:List (Nat×α)} {k:Nat} (h:∀p∈wl,∀q∈wl,p.1=q.1->p=q):lget (lupd L wl) k=match lget wl k with | some c=>some c | none=>lget L k:=by
 rcases iQ wl L k with ⟨p,hp,rfl,h2⟩ | ⟨h1,h2⟩
 ·have hk:(keys wl).elem p.1=true:=by simp only [keys,List.elem_eq_mem,decide_eq_true_eq];exact List.mem_map.2 ⟨p,hp,rfl⟩
  cases hc:lget wl p.1 with
  | none=>exact absurd hc (zE.1 hk)
  | some c=>
   have:=h p hp _ (ai hc) rfl
   rw [h2,this]
 ·cases hc:lget wl k with
  | none=>exact h2
  | some c=>exact absurd rfl (h1 _ (ai hc))
theorem mu {s:St} (h:s.ok) {d:Option Nat} {x:DV} (hx:x.ok):(s.set d x).ok:=by
 cases d with
 | none=>exact h
 | some t=>
  refine ⟨fun u y hy=>?_,h.2⟩
  simp only [St.set,lget] at hy
  split at hy
  ·simp at hy;subst hy;exact hx
  ·exact h.1 u y hy
theorem va {s:St} (h:s.ok) {wl:DLb} {dl:DL} (hw:wlOk wl):(s.wr wl dl).ok:=by
 refine ⟨h.1,fun l c hl=>?_⟩
 simp only [St.wr] at hl
 rcases iQ wl s.L l with ⟨p,hp,rfl,h2⟩ | ⟨_,h2⟩
 ·rw [h2] at hl;simp at hl;subst hl;exact hw p hp
 ·rw [h2] at hl;exact h.2 l c hl
theorem mt (s:St) (d:Option Nat) (x:DV):Up s (s.set d x):=fun _ h=>h.set d x
theorem u9 {s:St} {wl:DLb} {dl:DL} (h:lu s.L wl dl):Up s (s.wr wl dl):=fun _ k=>k.wr h
theorem ox (s:St) (d:Option Nat) (x:DV):dal (s.set d x).al=oset d x.pv (dal s.al):=by cases d <;> rfl
theorem ov (s:St) (d:Option Nat) (x:DV):(s.set d x).L=s.L:=by cases d <;> rfl
theorem IF {s:St} (h:s.ok):(resV s).ok:=by
 unfold resV
 split
 ·rename_i d hd;exact h.1 _ _ hd
 ·trivial
theorem Dl:∀{m m':List (Nat×Nat)},rD (m++m')=true->∀p∈m,lk (m++m') p.1=p.2:=fun h p hp=>ut h p (List.mem_append_left _ hp)
section
variable {E:Env} {d:Option Tmp} {ty:TypeId} {pos:String} {after:Array Edge} {gg:Option (Nat×Bool)} {ra:DAl} {rl:DLb} {R:Type} {k:DV->DLb->DL->Option R} {r:R} {G:GTab}
def OpB (wk:Bool) (E:Env) (o:Oper) (ra:DAl) (rl:DLb) {R:Type} (k:DV->DLb->DL->Option R) (r:R):Prop:=
 ∃x wl dl,(match wk with
  | false=>AOp E o (dal ra) (dlb rl) x.pv (dlb wl)
  | true=>AOpW E o (dal ra) (dlb rl) x.pv (dlb wl))/\x.ok/\wlOk wl/\lu rl wl dl/\k x wl dl=some r
theorem Ct {c:DC} (h:zI c=true) {cells:List PV} (hc:c.pv=some cells):ag noF cells=true:=by
 cases c with
 | gone=>simp [DC.pv] at hc
 | cs ds=>
  simp [DC.pv] at hc;subst hc
  simp only [zI,Bool.and_eq_true] at h
  exact eU h.1 (.inl h.2)
 | ls t l=>simp [DC.pv] at hc;subst hc;exact fH (.inl h) _
def qX (E:Env) (con:ICore) (a:HT (Sh.hss con.ar++hsL con.ls)) (v:con.ot.T) (TT:World->List Value->(Ending->World->Prop)->Prop):Prop:=
 cL E TT (DV.pvs (inA con.ar con.ls (ab _ a))) (dlb (inL con.ar con.ls (ab _ a))) fun x L=>x=(resV (con.ot.app v (inS con.ar con.ls (ab _ a)))).pv/\L=dlb (con.ot.app v (inS con.ar con.ls (ab _ a))).L
theorem pQ {wk:Bool} (hE:GOK E) (hrl:lbOk rl) {fr:Nat} {con:ICore} {f:FuncId} {args:List DV}
  (h:uS wk rl fr con f args k=some r):∃a v x wl dl L2 LL,con.f=f/\con.fn a=some v/\x.ok/\wlOk wl/\lu rl wl dl/\k x wl dl=some r/\(∃τ,x.pv=PV.rn τ (resV (con.ot.app v (inS con.ar con.ls (ab _ a)))).pv) /\
   (∀TT:World->List Value->(Ending->World->Prop)->Prop,(∀w cargs (R R':Ending->World->Prop),(∀e w',R e w'->R' e w')->TT w cargs R->TT w cargs R')->qX E con a v TT->cL E TT (DV.pvs args) L2 fun r L'=>r=x.pv/\L'=LL) /\
   ag (hasL L2) (DV.pvs args)=true/\(∀l cells,lget L2 l=some (some cells)->ag (hasL L2) cells=true)/\(∀l,lget L2 l≠none->lget LL l≠none)/\(∀l y,lget LL l=some y->lget L2 l=none->∃p∈dlb wl,p.1=l) /\
   (∀(L:Lb) (l:Nat),(∀l y,lget L2 l=some y->lget L l=some y)->lget (lupd L (dlb wl)) l=lget (LL++L) l) /\
   (∀{L:Lb},(∀l y,lget (dlb rl) l=some y->lget L l=some y)->(∀p∈dlb wl,lget (dlb rl) p.1≠none\/lget L p.1=none)->(∀l y,lget L2 l=some y->lget L l=some y)/\∀p∈dlb wl,lget L2 p.1≠none\/lget L p.1=none) /\
   (wk=false->Kst L2)/\(wk=true->∀{L:Lb},(∀l y,lget (dlb rl) l=some y->lget L l=some y)->(∀l cells,lget (dlb rl) l=none->lget L l=some (some cells)->ag noF cells=true)->∀l cells,lget L2 l=none->lget L l=some (some cells)->ag noF cells=true):=by
 unfold uS at h
 split at h
 rotate_left
 ·simp at h
 rename_i hc0;obtain ⟨rfl,hk1,hk2,hk3⟩:=hc0
 split at h
 rotate_left
 ·simp at h
 rename_i g1 hg1
 split at h
 rotate_left
 ·simp at h
 rename_i g hg
 obtain ⟨hq,h⟩:=wh h
 split at h
 rotate_left
 ·simp at h
 rename_i a ha
 obtain ⟨v,hv,h⟩:=bind_some h
 simp only at h
 split at h
 rotate_left
 ·simp at h
 rename_i hc
 obtain ⟨c1,c2,c3,c4,c5,c6,c7,c8,c9,c10,c11,c12,c13,c14⟩:=hc
 have hu:=sK ha
 obtain ⟨a1,as_,a2,a3,a4⟩:=lN _ con.ar hg1
 obtain ⟨b1,ys,b2,b4⟩:=wq hg
 have hvs:g.vs=as_++ys:=by rw [b2,a2];simp
 have hC:∀TT,qX E con a v TT->cL E TT (DV.pvs (inA con.ar con.ls g.vs)) (dlb (inL con.ar con.ls g.vs)) fun x L=>x=(resV (con.ot.app v (inS con.ar con.ls g.vs))).pv/\L=dlb (con.ot.app v (inS con.ar con.ls g.vs)).L:=fun TT hc=>by
  unfold qX at hc;rw [hu] at hc;exact hc
 generalize hlen:kG con.ar con.ls g.vs=len at *
 generalize ho:con.ot.app v (inS con.ar con.ls g.vs)=o at *
 have hAeq:inA con.ar con.ls g.vs=(Sh.mks len con.ar (as_++ys)).1:=by unfold inA;rw [hlen,hvs]
 have hτ:∀p∈g.m,lk (g.m++newN (fr) (keys con.ls) (keys o.L) 0) p.1=p.2:=Dl c1
 generalize lk (g.m++newN (fr) (keys con.ls) (keys o.L) 0)=τ at *
 have hLk:keys (inL con.ar con.ls g.vs)=keys con.ls:=gw _ _ _
 have hS:hasL (dlb (inL con.ar con.ls g.vs))=fun l=>(keys con.ls).elem l:=by rw [dj,hLk]
 have hF:Fin τ (hasL (dlb (inL con.ar con.ls g.vs))) len g:=⟨fun p hp=>⟨hτ p hp,by rw [hS];exact List.all_eq_true.1 c2 p hp⟩,hq⟩
 obtain ⟨d1,d2,d3⟩:=a4 len ys τ _ (hF.sub b1).m (hF.sub b1).q
 obtain ⟨e1,e2⟩:=b4 [] hF
 have hx1:=Hn hg b2 (rest:=[]) hF
 rw [List.append_nil] at e1 e2 hx1
 have hLeq:inL con.ar con.ls g.vs=(mkL len con.ls ys).1:=by
  unfold inL;rw [hlen,hvs]
  simp only at d1
  rw [d1]
 let L2:Lb:=con.ls.map fun p=>(τ p.1,match lget rl (τ p.1) with | some c=>c.pv | none=>none)
 have hL2k:hasL L2=fun l=>((keys con.ls).map τ).elem l:=by
  have:L2=dlb (con.ls.map fun p=>(τ p.1,match lget rl (τ p.1) with | some c=>c | none=>.gone)):=by
   simp only [L2,dlb,List.map_map]
   refine List.map_congr_left fun p _=>?_
   simp only [Function.comp]
   cases lget rl (τ p.1) <;> rfl
  rw [this,dj]
  funext l
  simp only [keys,List.map_map]
  rfl
 have hin:∀l,l∈keys con.ls->∃c cells,lget rl (τ l)=some c/\c.pv=some cells/\iM (fun l=>((keys con.ls).map τ).elem l) c=true:=by
  intro l hl
  obtain ⟨p,hp,rfl⟩:=List.mem_map.1 hl
  have:=List.all_eq_true.1 c4 p hp
  split at this
  ·simp at this
  ·rename_i c hne hc
   cases c with
   | gone=>exact (hne rfl).elim
   | cs ds=>exact ⟨_,_,hc,rfl,this⟩
   | ls t x=>exact ⟨_,_,hc,rfl,this⟩
  ·simp at this
 have hsub:∀p∈L2,lget (dlb rl) p.1=some p.2:=by
  intro p hp
  obtain ⟨q,hq,rfl⟩:=List.mem_map.1 hp
  obtain ⟨c,cells,h1,h2,_⟩:=hin q.1 (List.mem_map.2 ⟨q,hq,rfl⟩)
  simp only;rw [an,h1];rfl
 have hL2get:∀l,l∈keys con.ls->lget L2 (τ l)=lget (dlb rl) (τ l):=by
  intro l hl
  have:hasL L2 (τ l)=true:=by rw [hL2k];simp only [List.elem_eq_mem,decide_eq_true_eq];exact List.mem_map.2 ⟨l,hl,rfl⟩
  simp only [hasL,Option.isSome_iff_exists] at this
  obtain ⟨y,hy⟩:=this
  rw [hy];exact (hsub _ (ai hy)).symm
 have hinj:∀l l',lget (dlb o.L) l≠none->lget (dlb o.L) l'≠none->τ l=τ l'->l=l':=by
  intro l l' h1 h2 h3
  have hk:∀{l},lget (dlb o.L) l≠none->l∈keys o.L:=fun {l} h=>by
   have:hasL (dlb o.L) l=true:=by simpa [hasL,Option.isSome_iff_ne_none] using h
   rw [dj] at this;simpa using this
  have:=List.all_eq_true.1 (List.all_eq_true.1 c6 l (hk h1)) l' (hk h2)
  simp only [decide_eq_true_eq] at this
  exact this h3
 have hmemo:∀{l},lget (dlb o.L) l≠none<->l∈keys o.L:=fun {l}=>by
  have:hasL (dlb o.L) l=true<->l∈keys o.L:=by rw [dj];simp
  rw [<-this];simp [hasL,Option.isSome_iff_ne_none]
 have hmemi:∀{l},lget (dlb (inL con.ar con.ls g.vs)) l≠none<->l∈keys con.ls:=fun {l}=>by
  have:hasL (dlb (inL con.ar con.ls g.vs)) l=true<->l∈keys con.ls:=by rw [hS];simp
  rw [<-this];simp [hasL,Option.isSome_iff_ne_none]
 have hdom:∀l,l∈keys con.ls->l∈keys o.L:=fun l hl=>by simpa using List.all_eq_true.1 c5 l hl
 have hrn:∀l,l∈keys o.L->lget (rnL τ o.L) (τ l)=(lget o.L l).map (DC.rn τ):=fun l hl=>Av fun l' hl' e=>hinj l' l (hmemo.2 hl') (hmemo.2 hl) e
 have hkp:∀l,lget (dlb (inL con.ar con.ls g.vs)) l≠none->τ l=de->l=de:=fun l hl=>by
  have:=List.all_eq_true.1 c13 l (hmemi.1 hl)
  exact of_decide_eq_true this
 have hR:=fun TT (hTT:∀w cargs (R R':Ending->World->Prop),(∀e w',R e w'->R' e w')->TT w cargs R->TT w cargs R') (hc0:qX E con a v TT)=>cL.ren (L2:=L2) (LL2:=dlb (rnL τ o.L)) (τ:=τ) (xs:=DV.pvs args) hTT (hC TT hc0) (by
   rw [hAeq];exact d2.get.1) (fun i x y hx hy=>by rw [hAeq] at hy;exact d2.get.2 i x y hx hy) (fun l c hl=>by
   have hlk:l∈keys con.ls:=hmemi.1 (by rw [hl];simp)
   have hm:=ai hl
   obtain ⟨⟨l',c'⟩,hp,e⟩:=List.mem_map.1 hm
   simp only [Prod.mk.injEq] at e;obtain ⟨rfl,rfl⟩:=e
   rw [hLeq] at hp
   obtain ⟨_,ys',k2,k3⟩:=e2 _ hp
   simp only at k2 k3
   rcases k3 with ⟨xs',k4,k5⟩ | ⟨k4,_⟩
   ·exact ⟨ys',xs',k2,by rw [hL2get _ hlk];exact k4,k5⟩
   ·obtain ⟨c,cells,h1,_⟩:=hin _ hlk
    rw [an,h1] at k4;simp at k4)
  (fun k' hk'=>by
   have:hasL L2 k'=true:=by simpa [hasL,Option.isSome_iff_ne_none] using hk'
   rw [hL2k] at this
   simp only [List.elem_eq_mem,decide_eq_true_eq] at this
   obtain ⟨l,h1,h2⟩:=List.mem_map.1 this
   exact ⟨l,hmemi.2 h1,h2⟩) hinj (fun l hl=>hmemo.2 (hdom l (hmemi.1 hl)))
  (by rw [dj];exact pD c7) (fun l cells hl=>by
   have hm:=ai hl
   obtain ⟨⟨l',c'⟩,hp,e⟩:=List.mem_map.1 hm
   simp only [Prod.mk.injEq] at e;obtain ⟨rfl,e⟩:=e
   have h8:=List.all_eq_true.1 c8 _ hp
   rw [dj]
   cases c' with
   | gone=>simp [DC.pv] at e
   | cs ds=>simp [DC.pv] at e;subst e;exact ek h8
   | ls t x=>
    simp [DC.pv] at e;subst e
    simp only [iM,Bool.or_eq_true] at h8
    exact fH h8 _)
  (fun l c hl=>by
   have hlk:l∈keys o.L:=hmemo.1 (by rw [hl];simp)
   rw [an] at hl
   cases ho2:lget o.L l with
   | none=>rw [ho2] at hl;simp at hl
   | some c'=>
    rw [ho2] at hl;simp at hl;subst hl
    rw [an,hrn l hlk,ho2]
    simp [HF])
  (fun k' hk'=>by
   rw [an] at hk'
   obtain ⟨l,h1,h2⟩:=jD (L:=o.L) (τ:=τ) (k:=k') (fun e=>hk' (by rw [e];rfl))
   exact ⟨l,hmemo.2 h1,h2⟩) hkp hE
 have hwl_nd:∀p∈wlI τ rl con.ls con.ot o.L,∀q∈wlI τ rl con.ls con.ot o.L,p.1=q.1->p=q:=by
  intro p hp q hq e
  obtain ⟨⟨l,c⟩,hp1,rfl⟩:=List.mem_map.1 hp
  obtain ⟨⟨l',c'⟩,hq1,rfl⟩:=List.mem_map.1 hq
  have hp':=(List.mem_filter.1 hp1).1
  have hq':=(List.mem_filter.1 hq1).1
  have h1:=gt c11 hp'
  have h2:=gt c11 hq'
  have hlk:∀{l c},(l,c)∈o.L->l∈keys o.L:=fun h=>List.mem_map.2 ⟨_,h,rfl⟩
  have:=hinj l l' (hmemo.2 (hlk hp')) (hmemo.2 (hlk hq')) e
  subst this
  rw [h1] at h2;simp at h2;rw [h2]
 have hbase:∀l c,lget o.L l=some c->l ∉ keys con.ot.labs->∃c0,(l,c0)∈inL con.ar con.ls g.vs/\∃cu:List (Nat×Nat×DV),(cu.map fun c=>(c.1,c.2.1))=(con.ot.cups.map fun c=>(c.1,c.2.1))/\c=cupL cu con.ot.killL l c0:=by
  intro l c hl hn
  rw [<-ho] at hl
  simp only [Tm.app,Tm.appL] at hl
  rcases nt hl with ⟨p,hp,rfl⟩ | ⟨_,hl⟩
  ·have:l∈keys con.ot.labs:=by
    have h1:l∈(mkL (lenF (lenT con.ot.labs ((ab con.ot.hs v).drop (nS con.ot.slots))) (inS con.ar con.ls g.vs).L) con.ot.labs (mkS (lenF (lenT con.ot.labs ((ab con.ot.hs v).drop (nS con.ot.slots))) (inS con.ar con.ls g.vs).L) con.ot.slots (ab con.ot.hs v)).2).1.map (·.1):=List.mem_map.2 ⟨_,hp,rfl⟩
    rw [gw] at h1;exact h1
   exact absurd this hn
  ·obtain ⟨⟨l',c0⟩,hp,e⟩:=List.mem_map.1 (ai hl)
   simp only [Prod.mk.injEq] at e;obtain ⟨rfl,rfl⟩:=e
   exact ⟨c0,ai (kc hp).2,_,pw _ _ _,rfl⟩
 have hcup_no:∀{cu:List (Nat×Nat×DV)} {l:Nat} {c0:DC},(cu.map fun c=>(c.1,c.2.1))=(con.ot.cups.map fun c=>(c.1,c.2.1))->con.ot.killL.elem l=false->∀t x,c0 = .ls t x->cupL cu con.ot.killL l c0 = .ls t x:=by
  intro cu l c0 _ hk t x e;subst e;simp only [cupL,hk]
 have hkept:∀l,l∈keys o.L->nw τ rl con.ls con.ot l=true->∃c,lget rl (τ l)=some c/\(lget o.L l).map (DC.rn τ)=some c:=by
  intro l hlo hk
  simp only [nw,Bool.and_eq_true,Bool.not_eq_true'] at hk
  obtain ⟨⟨⟨k1,k2⟩,k3⟩,k4⟩:=hk
  split at k4
  ·rename_i sl hsl
   cases hoc:lget o.L l with
   | none=>exact absurd (by rw [an,hoc];rfl) (hmemo.2 hlo)
   | some c=>
    have hn:l ∉ keys con.ot.labs:=fun hm=>by
     have:(keys con.ot.labs).elem l=true:=by simpa using hm
     rw [this] at k1;simp at k1
    obtain ⟨c0,h1,cu,h2,h3⟩:=hbase l c hoc hn
    rw [hLeq] at h1
    obtain ⟨sh,h4,h5⟩:=hx1 _ h1
    have h6:=gt c12 h4
    rw [hsl] at h6;simp at h6;subst h6
    unfold Dp at k4
    split at k4
    ·rename_i t t' x hls
     simp at k4;subst k4
     obtain ⟨y,h7,h8⟩:=h5
     simp only at h7 h8
     have h9:=h8 x hls
     subst h9
     exact ⟨_,hls,by rw [h3,hcup_no h2 k2 _ _ h7];rfl⟩
    ·rename_i ss ds hls
     obtain ⟨ds',es,h6,h7,h8,h9,h10⟩:=h5
     simp only at h6 h7
     rw [hls] at h6;simp at h6;subst h6
     refine ⟨_,hls,?_⟩
     rw [h3,h7]
     simp only [cupL,k2,Option.map_some,DC.rn]
     have hno:∀i e0,cupD cu l i e0=e0:=by
      intro i e0
      rcases oy cu l i e0 with ⟨h13,_⟩ | ⟨q,h13,h14,h15,_⟩
      ·exact h13
      ·exfalso
       have hm:(q.1,q.2.1)∈cu.map (fun c=>(c.1,c.2.1)):=List.mem_map.2 ⟨q,h13,rfl⟩
       rw [h2] at hm
       obtain ⟨q',h16,h17⟩:=List.mem_map.1 hm
       simp at h17
       have:(con.ot.cups.any fun c=>decide (c.1=l))=true:=List.any_eq_true.2 ⟨q',h16,by simp [h17.1,h14]⟩
       rw [this] at k3;simp at k3
     congr 2
     refine List.ext_getElem? fun i=>?_
     rw [w5,kL]
     cases hei:es[i]? with
     | none=>
      have:ds.length<=i:=by have:=List.getElem?_eq_none_iff.1 hei;omega
      rw [List.getElem?_eq_none this];rfl
     | some e0=>
      have hlt:i<ds.length:=by have:=(List.getElem?_eq_some_iff.1 hei).1;omega
      have hdi:=List.getElem?_eq_getElem hlt
      have hsi:ss[i]?=some (ss[i]'(by omega)):=List.getElem?_eq_getElem (by omega)
      obtain ⟨e,h11,h12⟩:=h10 i _ _ hsi hdi (tT k4 hsi hdi)
      rw [hei] at h11;simp at h11;subst h11
      simp only [Option.map_some,Nat.zero_add,hno]
      rw [h12,hdi]
    ·simp at k4
  ·simp at k4
 have hwl:∀l,l∈keys o.L->lget (wlI τ rl con.ls con.ot o.L) (τ l)=if nw τ rl con.ls con.ot l=true then none else (lget o.L l).map (DC.rn τ):=by
  intro l hl
  unfold wlI
  rw [Av]
  ·rw [B1 (f:=fun l=>!nw τ rl con.ls con.ot l)]
   cases nw τ rl con.ls con.ot l <;> simp
  ·intro l' hl' e
   obtain ⟨p,hp,rfl⟩:=List.mem_map.1 hl'
   exact hinj _ _ (hmemo.2 (List.mem_map.2 ⟨p,(List.mem_filter.1 hp).1,rfl⟩)) (hmemo.2 hl) e
 have hstate:∀(L:Lb) (l:Nat),(∀l y,lget L2 l=some y->lget L l=some y)->lget (lupd L (dlb (wlI τ rl con.ls con.ot o.L))) l=lget (dlb (rnL τ o.L)++L) l:=by
  intro L k' hL
  have hwl_nd':∀p∈dlb (wlI τ rl con.ls con.ot o.L),∀q∈dlb (wlI τ rl con.ls con.ot o.L),p.1=q.1->p=q:=by
   intro p hp q hq e
   obtain ⟨p',hp1,rfl⟩:=List.mem_map.1 hp
   obtain ⟨q',hq1,rfl⟩:=List.mem_map.1 hq
   rw [hwl_nd p' hp1 q' hq1 e]
  rw [dH,an,Dr hwl_nd',an]
  by_cases hk:∃l∈keys o.L,τ l=k'
  ·obtain ⟨l,hl,rfl⟩:=hk
   rw [hwl l hl,hrn l hl]
   cases hoc:lget o.L l with
   | none=>exact absurd (by rw [an,hoc];rfl) (hmemo.2 hl)
   | some c=>
    cases hkp:nw τ rl con.ls con.ot l with
    | true=>
     obtain ⟨c1,h1,h2⟩:=hkept l hl hkp
     rw [hoc] at h2;simp at h2
     have hlk:l∈keys con.ls:=by
      simp only [nw,Bool.and_eq_true] at hkp
      have h3:=hkp.2
      split at h3
      ·rename_i hls;have:(keys con.ls).elem l=true:=zE.2 (by rw [hls];simp)
       simpa using this
      ·simp at h3
     have h4:lget L (τ l)=some c1.pv:=hL _ _ (by rw [hL2get l hlk,an,h1];rfl)
     simp [h4,h2]
    | false=>simp
  ·have h1:lget (rnL τ o.L) k'=none:=by
    cases hc:lget (rnL τ o.L) k' with
    | none=>rfl
    | some c=>exact absurd (jD (by rw [hc];simp)) hk
   have h2:lget (wlI τ rl con.ls con.ot o.L) k'=none:=by
    cases hc:lget (wlI τ rl con.ls con.ot o.L) k' with
    | none=>rfl
    | some c=>
     obtain ⟨l,h3,h4⟩:=jD (L:=o.L.filter fun p=>!nw τ rl con.ls con.ot p.1) (τ:=τ) (k:=k') (by unfold wlI at hc;rw [hc];simp)
     obtain ⟨p,hp,rfl⟩:=List.mem_map.1 h3
     exact absurd ⟨p.1,List.mem_map.2 ⟨p,(List.mem_filter.1 hp).1,rfl⟩,h4⟩ hk
   rw [h1,h2]
   simp
 have hook:o.ok:=by
  rw [<-ho]
  refine H2 hk1 v ⟨fun t x hx=>by simp [inS,lget] at hx,fun l c hl=>?_⟩
  exact ln hk2 (l,c) (ai hl)
 have hwlok:wlOk (wlI τ rl con.ls con.ot o.L):=by
  intro p hp
  obtain ⟨⟨l,c⟩,hp1,rfl⟩:=List.mem_map.1 hp
  have h1:=hook.2 l c (gt c11 (List.mem_filter.1 hp1).1)
  cases c with
  | gone=>trivial
  | ls t x=>trivial
  | cs ds=>exact um τ h1
 have hdirty:lu rl (wlI τ rl con.ls con.ot o.L) (rR τ rl con.ls con.ot):=by
  intro p hp
  obtain ⟨⟨l,c⟩,hp1,rfl⟩:=List.mem_map.1 hp
  obtain ⟨hpm,hnk⟩:=List.mem_filter.1 hp1
  have hoc:=gt c11 hpm
  have hlo:l∈keys o.L:=List.mem_map.2 ⟨_,hpm,rfl⟩
  simp only
  by_cases hlab:l∈keys con.ot.labs
  ·left
   obtain ⟨q,hq,rfl⟩:=List.mem_map.1 hlab
   simp only [rR,List.mem_append]
   exact .inl (.inl (.inl (List.mem_map.2 ⟨q,hq,rfl⟩)))
  ·obtain ⟨c0,h1,cu,h2,h3⟩:=hbase l c hoc hlab
   cases hkl:con.ot.killL.elem l with
   | true=>
    left
    simp only [rR,List.mem_append]
    exact .inl (.inr (List.mem_map.2 ⟨l,by simpa using hkl,rfl⟩))
   | false=>
    rw [hLeq] at h1
    obtain ⟨sh,h4,h5⟩:=hx1 _ h1
    simp only at h4 h5
    have hsh:=gt c12 h4
    have hinx:∀z,z∈qk (τ l) sh (lget rl (τ l))->z∈rR τ rl con.ls con.ot:=by
     intro z hz
     simp only [rR,List.mem_append]
     exact .inr (List.mem_flatMap.2 ⟨(l,sh),h4,hz⟩)
    cases sh with
    | ls t=>
     obtain ⟨y,h6,h7⟩:=h5
     have hnk':nw τ rl con.ls con.ot l=false:=by simpa using hnk
     have hl1:(keys con.ot.labs).elem l=false:=by simpa using hlab
     simp only [nw,hl1,hkl,hsh,Bool.not_false,Bool.true_and,Bool.and_eq_false_iff,Bool.not_eq_false'] at hnk'
     rcases hnk' with h8 | h8
     ·-- a cell of a list: there is none
      left
      simp only [List.any_eq_true,decide_eq_true_eq] at h8
      obtain ⟨q,hq,rfl⟩:=h8
      exfalso
      have:=List.all_eq_true.1 hk3 q hq
      split at this
      ·rename_i ss hss;rw [hsh] at hss;simp at hss
      ·simp at this
     ·left
      refine hinx _ ?_
      unfold qk
      simp only
      cases hsl:lget rl (τ l) with
      | none=>simp
      | some c'=>
       cases c' with
       | gone=>simp
       | cs ds=>simp
       | ls t' x=>
        simp only
        rw [hsl] at h8
        simp only [Dp,decide_eq_false_iff_not] at h8
        rw [if_neg h8];simp
    | cs ss=>
     obtain ⟨ds,es,h6,h7,h8,h9,h10⟩:=h5
     right
     subst h7
     have hcc:c = .cs (cupM cu l 0 es):=by rw [h3];simp only [cupL,hkl]
     subst hcc
     refine ⟨ds,DV.rns τ (cupM cu l 0 es),h6,rfl,by rw [BH,tK,h8],fun i hi=>?_⟩
     rw [w5,kL]
     cases hei:es[i]? with
     | none=>
      have:ds.length<=i:=by have:=List.getElem?_eq_none_iff.1 hei;omega
      rw [List.getElem?_eq_none this];rfl
     | some e0=>
      have hlt:i<ds.length:=by have:=(List.getElem?_eq_some_iff.1 hei).1;omega
      have hdi:=List.getElem?_eq_getElem hlt
      have hsi:ss[i]?=some (ss[i]'(by omega)):=List.getElem?_eq_getElem (by omega)
      have hex:df (ss[i]'(by omega)) ds[i]=true:=by
       refine B5 (k:=τ l) (j:=0) (i:=i) (fun hm=>hi (hinx _ ?_)) hsi hdi
       unfold qk
       simp only [h6]
       simpa using hm
      obtain ⟨e,h11,h12⟩:=h10 i _ _ hsi hdi hex
      rw [hei] at h11;simp at h11;subst h11
      simp only [Option.map_some,Nat.zero_add]
      rcases oy cu l i e0 with ⟨h13,_⟩ | ⟨q,h13,h14,h15,_⟩
      ·rw [h13,h12,hdi]
      ·exfalso
       have hm:(q.1,q.2.1)∈cu.map (fun c=>(c.1,c.2.1)):=List.mem_map.2 ⟨q,h13,rfl⟩
       rw [h2] at hm
       obtain ⟨q',h16,h17⟩:=List.mem_map.1 hm
       simp at h17
       refine hi ?_
       simp only [rR,List.mem_append]
       exact .inl (.inl (.inr (List.mem_map.2 ⟨q',h16,by rw [h17.1,h17.2,h14,h15]⟩)))
 have hA1:ag (hasL L2) (DV.pvs args)=true:=by
  rw [hL2k];exact ek c3
 have hA2:∀l cells,lget L2 l=some (some cells)->ag (hasL L2) cells=true:=by
  intro l cells hl
  obtain ⟨q,hq,e⟩:=List.mem_map.1 (ai hl)
  simp only [Prod.mk.injEq] at e
  obtain ⟨rfl,hc⟩:=e
  rw [hL2k]
  obtain ⟨c,cells',h1,h2,h3⟩:=hin q.1 (List.mem_map.2 ⟨q,hq,rfl⟩)
  rw [h1] at hc
  simp only at hc
  rw [h2] at hc;simp at hc;subst hc
  cases c with
  | gone=>simp [DC.pv] at h2
  | cs ds=>simp [DC.pv] at h2;subst h2;exact ek h3
  | ls t x=>
   simp [DC.pv] at h2;subst h2
   simp only [iM,Bool.or_eq_true] at h3
   exact fH h3 _
 have hA3:∀l,lget L2 l≠none->lget (dlb (rnL τ o.L)) l≠none:=by
  intro l hl
  have:hasL L2 l=true:=by simpa [hasL,Option.isSome_iff_ne_none] using hl
  rw [hL2k] at this
  simp only [List.elem_eq_mem,decide_eq_true_eq] at this
  obtain ⟨q,hq,rfl⟩:=List.mem_map.1 this
  have hl2:=hdom q hq
  rw [an,hrn q hl2]
  cases hoc:lget o.L q with
  | none=>exact absurd (by rw [an,hoc];rfl) (hmemo.2 hl2)
  | some c=>simp
 have hA4:∀l y,lget (dlb (rnL τ o.L)) l=some y->lget L2 l=none->∃p∈dlb (wlI τ rl con.ls con.ot o.L),p.1=l:=by
  intro l y hl hn
  have h1:lget (rnL τ o.L) l≠none:=fun e=>by rw [an,e] at hl;simp at hl
  obtain ⟨q,hq,rfl⟩:=jD h1
  have hnl:q ∉ keys con.ls:=fun hm=>by
   have:hasL L2 (τ q)=true:=by rw [hL2k];simp only [List.elem_eq_mem,decide_eq_true_eq];exact List.mem_map.2 ⟨q,hm,rfl⟩
   simp only [hasL,hn] at this;simp at this
  have hnk:nw τ rl con.ls con.ot q=false:=by
   have:lget con.ls q=none:=by
    cases hc:lget con.ls q with
    | none=>rfl
    | some c=>exact absurd (by have:(keys con.ls).elem q=true:=zE.2 (by rw [hc];simp)
                               simpa using this) hnl
   simp only [nw,this,Bool.and_false]
  obtain ⟨p,hp,rfl⟩:=List.mem_map.1 hq
  exact ⟨(τ p.1,(p.2.rn τ).pv),List.mem_map.2 ⟨(τ p.1,p.2.rn τ),List.mem_map.2 ⟨p,List.mem_filter.2 ⟨hp,by simp [hnk]⟩,rfl⟩,rfl⟩,rfl⟩
 have hl2e:∀{l:Nat},((keys con.ls).map τ).elem l=true->lget L2 l≠none:=fun {l} h=>by
  have:hasL L2 l=true:=by rw [hL2k];exact h
  simpa [hasL,Option.isSome_iff_ne_none] using this
 have hwc:∀{L:Lb},(∀l y,lget (dlb rl) l=some y->lget L l=some y)->(∀p∈dlb (wlI τ rl con.ls con.ot o.L),lget (dlb rl) p.1≠none\/lget L p.1=none) ->
   (∀l y,lget L2 l=some y->lget L l=some y)/\∀p∈dlb (wlI τ rl con.ls con.ot o.L),lget L2 p.1≠none\/lget L p.1=none:=by
  intro L h2 h3
  refine ⟨fun l y hl=>h2 l y ?_,fun p hp=>?_⟩
  ·rw [<-hsub (l,y) (ai hl)]
  ·rcases h3 p hp with h4 | h4
   ·left
    obtain ⟨p',hp1,rfl⟩:=List.mem_map.1 hp
    obtain ⟨⟨l,c⟩,hq1,rfl⟩:=List.mem_map.1 hp1
    have hl:l∈keys o.L:=List.mem_map.2 ⟨_,(List.mem_filter.1 hq1).1,rfl⟩
    have:=List.all_eq_true.1 c9 l hl
    simp only [Bool.or_eq_true,Bool.not_eq_true'] at this
    rcases this with h5 | h5
    ·refine hl2e ?_
     simp only [List.elem_eq_mem,decide_eq_true_eq] at h5 ⊢;exact List.mem_map.2 ⟨l,h5,rfl⟩
    ·exfalso
     simp only at h4
     rw [an] at h4
     have:(keys rl).elem (τ l)=true:=zE.2 fun e=>h4 (by rw [e];rfl)
     rw [this] at h5;simp at h5
   ·exact .inr h4
 refine ⟨a,v,_,_,_,L2,_,rfl,hv,GO τ (IF hook),hwlok,hdirty,h,⟨τ,by rw [hu,ho,Et]⟩,fun TT hTT hc0=>by rw [Et];exact hR TT hTT hc0,hA1,hA2,hA3,hA4,hstate,hwc,fun hwk=>?_,fun hwk {L} h2 h4 l cells hl hL=>?_⟩
 ·subst hwk
  simp only [wkOK,Bool.or_eq_true,Bool.not_eq_true'] at c14
  rcases c14 with h | h
  ·left
   cases hc:lget L2 flab with
   | none=>rfl
   | some y=>
    have:hasL L2 flab=true:=by simp [hasL,hc]
    rw [hL2k] at this
    simp only at this
    rw [this] at h;simp at h
  ·exact .inr (hl2e h)
 ·subst hwk
  cases hr:lget rl l with
  | none=>exact h4 l cells (by rw [an,hr];rfl) hL
  | some c=>
   have e1:=h2 l c.pv (by rw [an,hr];rfl)
   rw [hL] at e1
   simp only [wkOK] at c14
   have:=List.all_eq_true.1 c14 (l,c) (ai hr)
   simp only [Bool.or_eq_true] at this
   rcases this with h5 | h5
   ·exact absurd hl (hl2e h5)
   ·exact Ct h5 (by simpa using e1.symm)
theorem FV {wk:Bool} (hG:E.G=gtPV G) (hE:GOK E) (hal:alOk ra) (hrl:lbOk rl) {fr:Nat} {con:ICon E} {f:FuncId} {fo:Operand} {args:Array Operand} {ts:Array TypeId} {caps xs:List DV} (hf:dev G ra fo=some (.fn f caps)) (hx:devs G ra args.toList=some xs)
  (h:uS wk rl fr con.core f (xs++caps) k=some r):OpB wk E ⟨d,.call ⟨.value fo,args,ts⟩,ty,pos,after,gg⟩ ra rl k r:=by
 obtain ⟨hf',_⟩:=bj hal hf
 obtain ⟨hx',hxo⟩:=qo hal hx
 rw [<-hG] at hf' hx'
 obtain ⟨a,v,x,wl,dl,L2,LL,rfl,hv,hxk,hwlok,hdirty,h,_,hR,hA1,hA2,hA3,hA4,hstate,hwc,hs1,hs2⟩:=pQ hE hrl h
 have hcall:dQ E con.f (DV.pvs xs++DV.pvs caps) L2 fun r L'=>r=x.pv/\L'=LL:=by
  rw [<-bO]
  exact hR (fun w cargs R=>Calls E.P con.f cargs.toArray w R) (fun w cargs R R' hr h=>h.mono hr) (con.ok a v hv)
 rw [bO] at hA1
 refine ⟨_,_,_,?_,hxk,hwlok,hdirty,h⟩
 cases wk with
 | false=>
  have hA:AOp E ⟨d,.call ⟨.value fo,args,ts⟩,ty,pos,after,gg⟩ (dal ra) L2 x.pv (dlb wl):=
   u0 (caps:=DV.pvs caps) (xs:=DV.pvs xs) (LL:=LL) hE hf' hx' con.run hcall hA1 hA2 hA3 hA4 hstate (hs1 rfl)
  intro A w σ al L a r h1 h2 h3
  obtain ⟨k1,k2⟩:=hwc h2 h3
  exact hA A w σ al L a r h1 k1 k2
 | true=>
  have hA:AOpW E ⟨d,.call ⟨.value fo,args,ts⟩,ty,pos,after,gg⟩ (dal ra) L2 x.pv (dlb wl):=
   Ge (caps:=DV.pvs caps) (xs:=DV.pvs xs) (LL:=LL) hE hf' hx' con.run hcall hA1 hA2 hA3 hA4 hstate
  intro A w σ al L a r h1 h2 h3 h4
  obtain ⟨k1,k2⟩:=hwc h2 h3
  exact hA A w σ al L a r h1 k1 k2 (hs2 rfl h2 h4)
def rX {E:Env} (wk:Bool) (G:GTab) (con:Option (ICon E)) (o:Oper) (al:DAl) (L:DLb) (nl:Nat) {R:Type} (k:DV->DLb->DL->Option R):Option R:=match o.op with
 | .call ⟨.value fo,args,_⟩=>match dev G al fo with
  | some (.fn f caps)=>match devs G al args.toList with
   | some xs=>match con with
    | some con=>uS wk L nl con.core f (xs++caps) k
    | none=>none
   | none=>none
  | _=>none
 | _=>none
theorem nF {wk:Bool} (hG:E.G=gtPV G) (hE:GOK E) (hal:alOk ra) (hrl:lbOk rl) {con:Option (ICon E)} {o:Oper} {nl:Nat} (h:rX wk G con o ra rl nl k=some r):OpB wk E o ra rl k r:=by
 obtain ⟨dst,op,ty,pos,after,g⟩:=o
 unfold rX at h
 simp only at h
 split at h
 ·split at h
  ·rename_i hf
   split at h
   ·rename_i hx
    split at h
    ·exact FV hG hE hal hrl hf hx h
    ·simp at h
   ·simp at h
  ·simp at h
 ·simp at h
structure YCon (E:Env) where
 y:Nat
 ar:List Sh
 ls:List (Nat×LSh)
 ot:Tm
 fn:HT (Sh.hss ar++hsL ls)->Option ot.T
 ok:∀a v,fn a=some v->∀ro cvs cxs,cvs.length+cxs.length=ar.length->cxs.length=(SentA.yt y).ps.length ->
  qX E ⟨0,ar,ls,ot,fn⟩ a v (rb ro E.P (SentA.yt y).n (SentA.yt y).ps (SentA.yt y).assign (SentA.yt y).body (SentA.yt y).ts cvs cxs)
 res:∀v vs,(resV (ot.app v (inS ar ls vs))).pv = .bool true
def YCon.core {E:Env} (c:YCon E):ICore:=⟨0,c.ar,c.ls,c.ot,c.fn⟩
def dYld {E:Env} (G:GTab) (con:YCon E) (o:Oper) (al:DAl) (L:DLb) (nl:Nat) {R:Type} (k:DLb->DL->Option R):Option R:=match o.op with
 | .call ⟨.value fo,args,_⟩=>match dev G al fo with
  | some (.yl i vs)=>match Nat.beq i con.y with
   | true=>match devs G al args.toList with
    | some xs=>match Nat.beq xs.length (SentA.yt con.y).ps.length with
     | true=>match Nat.beq (vs.length+xs.length) con.ar.length with
      | true=>uS false L nl con.core 0 (vs++xs) fun _ wl dl=>k wl dl
      | false=>none
     | false=>none
    | none=>none
   | false=>none
  | _=>none
 | _=>none
theorem Jg {K:Nat->Prop} {n:Nat} {Q:Exit->Al->Lb->Prop} {ops:Array Oper} {rest:List Oper} (hG:E.G=gtPV G) (hE:GOK E) {s:St} (hs:s.ok) {con:YCon E} {o:Oper} {nl:Nat} {k:DLb->DL->Option R} (h:dYld G con o s.al s.L nl k=some r)
  (hd:∀t,o.dst=some t->t<n) (hg:ge ops (dal s.al) o=some true) :
  ∃wl dl,wlOk wl/\lu s.L wl dl/\k wl dl=some r/\(AWl E K n ops rest Q (oset o.dst (.bool true) (dal s.al)) (lupd (dlb s.L) (dlb wl))->AWl E K n ops (o::rest) Q (dal s.al) (dlb s.L)):=by
 obtain ⟨dst,op,ty,pos,after,gu⟩:=o
 unfold dYld at h
 simp only at h
 split at h
 rotate_left
 ·simp at h
 rename_i fo args ts
 split at h
 rotate_left
 ·simp at h
 rename_i i vs hf
 split at h
 rotate_left
 ·simp at h
 rename_i hi
 have hi:=Nat.eq_of_beq_eq_true hi
 subst hi
 split at h
 rotate_left
 ·simp at h
 rename_i xs hx
 split at h
 rotate_left
 ·simp at h
 rename_i hl1
 have hl1:=Nat.eq_of_beq_eq_true hl1
 split at h
 rotate_left
 ·simp at h
 rename_i hl2
 have hl2:=Nat.eq_of_beq_eq_true hl2
 obtain ⟨hf',_⟩:=bj hs.1 hf
 obtain ⟨hx',_⟩:=qo hs.1 hx
 rw [<-hG] at hf' hx'
 obtain ⟨a,v,x,wl,dl,L2,LL,_,hv,hxk,hwlok,hdirty,h,⟨τ,hxe⟩,hR,hA1,hA2,hA3,hA4,hstate,hwc,hs1,hs2⟩:=pQ hE hs.2 h
 refine ⟨wl,dl,hwlok,hdirty,h,fun kk=>?_⟩
 have hxt:x.pv = .bool true:=by
  rw [hxe]
  have e:(resV (con.core.ot.app v (inS con.core.ar con.core.ls (ab (Sh.hss con.core.ar++hsL con.core.ls) a)))).pv = .bool true:=con.res v _
  rw [e];rfl
 rw [bO] at hA1
 obtain ⟨k1,k2⟩:=hwc (L:=dlb s.L) (fun _ _ h=>h) fun p _=>by
  cases hc:lget (dlb s.L) p.1 with
  | none=>exact .inr rfl
  | some y=>exact .inl (by simp)
 refine Gd (vs:=DV.pvs vs) (xs:=DV.pvs xs) (rl:=L2) (LL:=LL) (wl:=dlb wl) hE hf' hx' (by rw [aB];exact hl1.symm) (fun cvs cxs e1 e2=>?_) hA1 hA2 hA3 hA4 hstate (hs1 rfl) k1 k2 hd hg kk
 rw [aB] at e1 e2
 have:=hR _ u7 (con.ok a v hv E.ro cvs cxs (by omega) (by omega))
 rw [bO,hxt] at this
 exact this
structure CT (E:Env) where
 p:Nat->Option (PCon E)
 i:Nat->Option (ICon E)
 y:Nat->Option (YCon E)
def orE {R:Type} (a b:Option R):Option R:=match a with
 | some r=>some r
 | none=>b
theorem Ks {R:Type} {a b:Option R} {r:R} (h:orE a b=some r):a=some r\/b=some r:=by
 unfold orE at h
 split at h
 ·exact .inl h
 ·exact .inr h
def dOpX (E:Env) (G:GTab) (C:CT E) (oh:OH) (o:Oper) (al:DAl) (L:DLb) (nl:Nat) {R:Type} (k:DV->DLb->DL->Option R):Option R:=match oh.io with
 | none=>match oh.ios with
  | []=>dOp E G C.p oh o al L nl k
  | p::r=>match o.op with
   | .call ⟨.value fo,_,_⟩=>match dev G al fo with
    | some (.fn f _)=>match lget (p::r) f with
     | some j=>rX false G (C.i j) o al L nl k
     | none=>none
    | _=>none
   | _=>none
 | some j=>match oh.alt with
  | none=>rX false G (C.i j) o al L nl k
  | some j2=>orE (rX false G (C.i j) o al L nl k) (rX false G (C.i j2) o al L nl k)
theorem AM (hG:E.G=gtPV G) (hE:GOK E) {C:CT E} {oh:OH} {o:Oper} {nl:Nat} (hal:alOk ra) (hrl:lbOk rl) (hn:lget rl nl=none) (h:dOpX E G C oh o ra rl nl k=some r):OpS E o ra rl k r:=by
 unfold dOpX at h
 split at h
 ·split at h
  ·exact KD hG hE hal hrl hn h
  ·split at h
   ·split at h
    ·split at h
     ·exact nF hG hE hal hrl h
     ·simp at h
    ·simp at h
   ·simp at h
 ·split at h
  ·exact nF hG hE hal hrl h
  ·rcases Ks h with h | h
   ·exact nF hG hE hal hrl h
   ·exact nF hG hE hal hrl h
end
end Go.SH
namespace Go.SH
variable [SentA]
theorem xL {w:World} {σ:Sig} {A:Nat->Prop} {L:Lb} (hb:BR w σ A L) {l off n sz:Nat} {co:Option Nat} {cells part:List PV} (hl:lget L l=some (some cells)) (hp:(cells.drop off).take (n*sz)=part) (hin:off+n*sz<=cells.length)
  (hpure:ag (fun _=>false) part=true) {v:Value} (h:VR w σ (avo A σ L) (.rw l off n sz co) v):VR w σ (avo A σ (lset L l none)) (.ro part n none) v:=by
 have hav:∀β,avOf σ (lset L l none) β->avOf σ L β:=by
  rintro β (⟨k,d,a,s,hk,hs⟩ | h)
  ·rw [ao] at hk
   split at hk
   ·simp at hk
   ·exact .inl ⟨k,d,a,s,hk,hs⟩
  ·exact .inr h
 have h1:∀β,¬avo A σ L β->¬avo A σ (lset L l none) β:=fun β hn h=>hn (h.imp id (hav β))
 cases h with
 | rwE a hc=>
  have:part=[]:=by rw [<-hp];simp
  subst this
  exact .roE a 0 (by simp)
 | @rw _ _ _ _ _ β add size cap hs hn hc hsz=>
  rcases hb.all l cells hl with ⟨h3,h4⟩ | ⟨β',add',size',c,T,fr,hB⟩
  ·rw [hs] at h3;simp at h3
  ·have:=hB.sig;rw [hs] at this;simp at this
   obtain ⟨rfl,rfl,rfl⟩:=this
   have hlen:part.length=n*sz:=by rw [<-hp];simp;omega
   have hlt:β<w.heap.size:=(Array.getElem?_eq_some_iff.1 hB.heap).1
   have hna:¬avo A σ (lset L l none) β:=by
    rintro (hA | ⟨k,d,a,s,hk,hks⟩ | ⟨q,ad,hq⟩)
    rotate_left 2
    ·exact (hb.fr.fam q β ad hq).2 ⟨l,cells,add,size,hl,hs⟩
    ·exact (hb.lo β hA).2 (.inl ⟨l,cells,add,size,hl,hs⟩)
    ·rw [ao] at hk
     split at hk
     ·simp at hk
     ·rename_i hne;exact hne (hb.inj l k cells d β add size a s hl hk hs hks)
   have get:∀i x,part[i]?=some x->cells[off+i]?=some x:=by
    intro i x hx
    rw [<-hp,List.getElem?_take] at hx
    split at hx
    ·rw [List.getElem?_drop] at hx;exact hx
    ·simp at hx
   let f:Nat->Value:=fun i=>(c[add+off+i]?).getD undef
   refine .ro ((List.range (n*sz)).map f) ⟨hlt,hna,fun i v hv=>?_⟩ (by simp [hlen]) (fun i x v hx hv=>?_) hn (by simp)
   ·have hi:i<n*sz:=by have:=(List.getElem?_eq_some_iff.1 hv).1;simpa using this
    have hi2:i<part.length:=by omega
    obtain ⟨u,h5,h6⟩:=hB.vals _ _ (get i _ (List.getElem?_eq_getElem hi2))
    rw [fK hB.heap]
    rw [<-Nat.add_assoc] at h5
    simp [List.getElem?_range hi,f,h5] at hv
    rw [h5,hv]
   ·have hi:i<n*sz:=by have:=(List.getElem?_eq_some_iff.1 hv).1;simpa using this
    obtain ⟨u,h5,h6⟩:=hB.vals _ _ (get i x hx)
    rw [<-Nat.add_assoc] at h5
    simp [List.getElem?_range hi,f,h5] at hv
    rw [<-hv]
    exact h6.pure (az hpure hx) h1
theorem Weak.frz {E:Env} {K:Nat->Prop} {al:Al} {L:Lb} {lab:Nat} {cells:List PV} (hl:lget L lab=some (some cells)) {t off n sz:Nat} {co:Option Nat} (ht:lget al t=some (.rw lab off n sz co)) {part ys:List PV}
  (hp:(cells.drop off).take (n*sz)=part) (hin:off+n*sz<=cells.length) (hpu:ag (fun _=>false) part=true) (hle:CLe part ys):Weak E K al L ((t,.ro ys n none)::al) (lset L lab none):=by
 intro A w σ a r
 obtain ⟨hb,hg⟩:=r.blocks.drop lab
 have r':=r.grow hb hg
 refine ⟨σ,⟨fun u x hx=>?_,hb,r'.globals,r'.nodefer⟩,hg.weaken fun _ _=>trivial⟩
 rw [lget] at hx
 split at hx
 ·rename_i e;subst e;simp at hx;subst hx
  obtain ⟨v,h1,h2⟩:=r.tmps t _ ht
  exact ⟨v,h1,PLe.ro hle _ _ _ _ (xL r.blocks hl hp hin hpu h2)⟩
 ·exact r'.tmps u x hx
theorem Weak.frzA {E:Env} {K:Nat->Prop} {al:Al} {L:Lb} {lab:Nat} {cells:List PV} (hl:lget L lab=some (some cells)) {t i off n sz:Nat} {co:Option Nat} {xs:List PV} (ht:lget al t=some (.agg xs)) (hi:xs[i]?=some (.rw lab off n sz co)) {part ys:List PV}
  (hp:(cells.drop off).take (n*sz)=part) (hin:off+n*sz<=cells.length) (hpu:ag (fun _=>false) part=true) (hle:CLe part ys):Weak E K al L ((t,.agg (xs.set i (.ro ys n none)))::al) (lset L lab none):=by
 intro A w σ a r
 obtain ⟨hb,hg⟩:=r.blocks.drop lab
 have r':=r.grow hb hg
 refine ⟨σ,⟨fun u x hx=>?_,hb,r'.globals,r'.nodefer⟩,hg.weaken fun _ _=>trivial⟩
 rw [lget] at hx
 split at hx
 ·rename_i e;subst e;simp at hx;subst hx
  obtain ⟨v,h1,h2⟩:=r.tmps t _ ht
  obtain ⟨v',h1',h2'⟩:=r'.tmps t _ ht
  rw [h1] at h1';simp at h1';subst h1'
  refine ⟨v,h1,?_⟩
  cases h2 with
  | agg cs hlen hv=>
   generalize hcs:Value.agg cs.toArray=vv at h2'
   cases h2' with
   | agg cs' hlen' hv'=>
    have:cs=cs':=by simpa using hcs
    subst this
    refine .agg cs (by simpa using hlen) fun j y u hy hu=>?_
    rw [List.getElem?_set] at hy
    split at hy
    ·rename_i e;subst e
     split at hy
     ·simp at hy;subst hy
      exact PLe.ro hle _ _ _ _ (xL r.blocks hl hp hin hpu (hv i _ u hi hu))
     ·simp at hy
    ·exact hv' j y u hy hu
 ·exact r'.tmps u x hx
def B9:List DV->Nat->Option (Nat×Nat×Nat×Nat×Nat×Option Nat×Bool)
 | [],_=>none
 | d::r,i=>match d with
  | .rw lab sz off n co w=>some (i,lab,sz,off,n,co,w)
  | _=>B9 r (i+1)
theorem B8:∀{cs:List DV} {j i lab sz off n:Nat} {co:Option Nat} {w:Bool},B9 cs j=some (i,lab,sz,off,n,co,w)->∃k,i=j+k/\cs[k]?=some (.rw lab sz off n co w)
 | [],j,i,lab,sz,off,n,co,w,h=>by simp [B9] at h
 | d::r,j,i,lab,sz,off,n,co,w,h=>by
  simp only [B9] at h
  split at h
  ·simp at h;obtain ⟨rfl,rfl,rfl,rfl,rfl,rfl,rfl⟩:=h;exact ⟨0,rfl,rfl⟩
  ·obtain ⟨k,h1,h2⟩:=B8 h
   exact ⟨k+1,by omega,by simpa using h2⟩
theorem IH (cs:List DV) (i:Nat) (d:DV):DV.pvs (cs.set i d)=(DV.pvs cs).set i d.pv:=by simp [nX,List.map_set]
def fkS {R:Type} (i:Nat) (k:DV->Option R):List FuncId->Nat->Option R
 | [],_=>none
 | f::r,j=>cond (Nat.beq i j) (k (.fn f [])) (fkS i k r (j+1))
def fkK {R:Type} (fs:List FuncId) (i:Nat) (k:DV->Option R):Option R:=cond (Nat.beq i 0) (k .nilf) (fkS i k fs 1)
theorem Hq {R:Type} {r:R} {i:Nat} {k:DV->Option R}:∀{fs:List FuncId} {j:Nat},fkS i k fs j=some r->∃m f,i=j+m/\fs[m]?=some f/\k (.fn f [])=some r
 | [],j,h=>by simp [fkS] at h
 | f::fs,j,h=>by
  simp only [fkS] at h
  cases e:Nat.beq i j with
  | true=>rw [e] at h;exact ⟨0,f,Nat.eq_of_beq_eq_true e,rfl,h⟩
  | false=>
   rw [e] at h
   obtain ⟨m,g,h1,h2,h3⟩:=Hq h
   exact ⟨m+1,g,by omega,by simpa using h2,h3⟩
theorem KA {R:Type} {r:R} {fs:List FuncId} {i:Nat} {k:DV->Option R} (h:fkK fs i k=some r):∃d,d.pv=fnK fs i/\d.ok/\k d=some r:=by
 unfold fkK at h
 cases e:Nat.beq i 0 with
 | true=>rw [e] at h;rw [Nat.eq_of_beq_eq_true e];exact ⟨.nilf,rfl,trivial,h⟩
 | false=>
  rw [e] at h
  obtain ⟨m,f,rfl,h2,h3⟩:=Hq h
  refine ⟨.fn f [],?_,trivial,h3⟩
  rw [Nat.add_comm]
  simp [fnK,h2,DV.pv,DV.pvs]
theorem Weak.same {E:Env} {K:Nat->Prop} {al al':Al} {L:Lb} (h:∀t x,lget al' t=some x->lget al t=some x):Weak E K al L al' L:=fun A w σ a r=>
 ⟨σ,⟨fun u x hx=>r.tmps u x (h u x hx),r.blocks,r.globals,r.nodefer⟩,Grow.refl _ _ _ _⟩
def dFz {R:Type}:List (Nat×ET)->St->(St->Option R)->Option R
 | [],s,k=>k s
 | (t,e)::r,s,k=>match lget s.al t with
  | some (.rw lab sz off n co w)=>if mN s.L lab=true then srcL s.L e (.rw lab sz off n co w) fun l=>
    dFz r { al:=(t,.sl e l)::s.al,L:=lset s.L lab .gone,ds:=t::s.ds,dl:=(lab,none)::s.dl } k else none
  | some (.agg cs)=>match B9 cs 0 with
   | some (i,lab,sz,off,n,co,w)=>if mN s.L lab=true then srcL s.L e (.rw lab sz off n co w) fun l=>
     dFz r { al:=(t,.agg (cs.set i (.sl e l)))::s.al,L:=lset s.L lab .gone,ds:=t::s.ds,dl:=(lab,none)::s.dl } k else none
   | none=>none
  | some (.fk fs i)=>fkK fs i fun d=>dFz r { s with al:=(t,d)::s.al,ds:=t::s.ds } k
  | some _=>dFz r s k
  | none=>none
section
variable {E:Env} {K:Nat->Prop} {n:Nat} {Q:Exit->Al->Lb->Prop} {ops:Array Oper} {rest:List Oper} {R:Type} {r:R}
theorem xZ:∀{fz:List (Nat×ET)} {s:St} {k:St->Option R},dFz fz s k=some r->s.ok->∃s',Up s s'/\s'.ok/\k s'=some r/\Weak E K (dal s.al) (dlb s.L) (dal s'.al) (dlb s'.L)
 | [],s,k,h,hs=>⟨s,.refl s,hs,h,.refl⟩
 | (t,e)::fz,s,k,h,hs=>by
  simp only [dFz] at h
  split at h
  ·rename_i lab sz off n co w ht
   split at h
   ·rename_i hp
    obtain ⟨l,cells,hc,h'⟩:=iG h
    clear h
    obtain ⟨cc,c1,c2,c3,c4,c5⟩:=hc.rw _ _ _ _ _ _ rfl
    subst c5;subst c3
    have hu:Up s { al:=(t,.sl e l)::s.al,L:=lset s.L lab .gone,ds:=t::s.ds,dl:=(lab,none)::s.dl }:=by
     have h1:=u9 (s:=s) (wl:=[(lab,.gone)]) (dl:=[(lab,none)]) (fun p hp=>by simp at hp;subst hp;exact .inl (by simp))
     exact h1.trans (mt _ (some t) (.sl e l))
    have ho:St.ok { al:=(t,.sl e l)::s.al,L:=lset s.L lab .gone,ds:=t::s.ds,dl:=(lab,none)::s.dl }:=by
     have h1:=va hs (wl:=[(lab,.gone)]) (dl:=[(lab,none)]) (fun p hp=>by simp at hp;subst hp;trivial)
     exact mu h1 (d:=some t) (x:=.sl e l) trivial
    have hw:Weak E K (dal s.al) (dlb s.L) (dal ((t,.sl e l)::s.al)) (dlb (lset s.L lab .gone)):=by
     have e1:dlb (lset s.L lab .gone)=lset (dlb s.L) lab none:=(pz DC.pv s.L lab .gone).symm
     rw [e1]
     refine Weak.frz c1 (off:=off*e.sz) (sz:=e.sz) (n:=l.length) (co:=co) (by rw [aZ,ht];rfl) c4 c2 ?_ hc.le
     rw [<-c4]
     unfold mN at hp
     split at hp
     ·rename_i c hcc
      rw [an,hcc] at c1
      exact ly (lA hp (by simpa using c1)) _ _
     ·simp at hp
    obtain ⟨s',u',o',k',w'⟩:=xZ h' ho
    exact ⟨s',hu.trans u',o',k',hw.trans w'⟩
   ·simp at h
  ·rename_i cs ht
   split at h
   rotate_left
   ·simp at h
   rename_i i lab sz off n co w hfr
   obtain ⟨i',hi0,hci⟩:=B8 hfr
   obtain rfl:i=i':=by omega
   split at h
   ·rename_i hp
    obtain ⟨l,cells,hc,h'⟩:=iG h
    clear h
    obtain ⟨cc,c1,c2,c3,c4,c5⟩:=hc.rw _ _ _ _ _ _ rfl
    subst c5;subst c3
    have hcok:DV.oks (cs.set i (.sl e l)):=by
     have:=hs.1 t _ ht
     refine bS.2 fun x hx=>?_
     rcases List.mem_or_eq_of_mem_set hx with h | h
     ·exact bS.1 this x h
     ·subst h;trivial
    have hu:Up s { al:=(t,.agg (cs.set i (.sl e l)))::s.al,L:=lset s.L lab .gone,ds:=t::s.ds,dl:=(lab,none)::s.dl }:=by
     have h1:=u9 (s:=s) (wl:=[(lab,.gone)]) (dl:=[(lab,none)]) (fun p hp=>by simp at hp;subst hp;exact .inl (by simp))
     exact h1.trans (mt _ (some t) (.agg (cs.set i (.sl e l))))
    have ho:St.ok { al:=(t,.agg (cs.set i (.sl e l)))::s.al,L:=lset s.L lab .gone,ds:=t::s.ds,dl:=(lab,none)::s.dl }:=by
     have h1:=va hs (wl:=[(lab,.gone)]) (dl:=[(lab,none)]) (fun p hp=>by simp at hp;subst hp;trivial)
     exact mu h1 (d:=some t) (x:=.agg (cs.set i (.sl e l))) hcok
    have hw:Weak E K (dal s.al) (dlb s.L) (dal ((t,.agg (cs.set i (.sl e l)))::s.al)) (dlb (lset s.L lab .gone)):=by
     have e1:dlb (lset s.L lab .gone)=lset (dlb s.L) lab none:=(pz DC.pv s.L lab .gone).symm
     rw [e1]
     show Weak E K _ _ ((t,.agg (DV.pvs (cs.set i (.sl e l))))::dal s.al) _
     rw [IH]
     refine Weak.frzA c1 (off:=off*e.sz) (sz:=e.sz) (n:=l.length) (co:=co) (i:=i) (xs:=DV.pvs cs) (by rw [aZ,ht];rfl) (by rw [nW,hci];rfl) c4 c2 ?_ hc.le
     rw [<-c4]
     unfold mN at hp
     split at hp
     ·rename_i c hcc
      rw [an,hcc] at c1
      exact ly (lA hp (by simpa using c1)) _ _
     ·simp at hp
    obtain ⟨s',u',o',k',w'⟩:=xZ h' ho
    exact ⟨s',hu.trans u',o',k',hw.trans w'⟩
   ·simp at h
  ·rename_i fs i ht
   obtain ⟨d,e1,e2,h⟩:=KA h
   obtain ⟨s',u',o',k',w'⟩:=xZ h (mu hs (d:=some t) (x:=d) e2)
   refine ⟨s',(mt s (some t) d).trans u',o',k',Weak.trans (Weak.same fun u x hx=>?_) w'⟩
   rw [aZ] at hx ⊢
   simp only [lget] at hx
   split at hx
   ·rename_i e;subst e
    rw [ht];simp only [Option.map_some] at hx ⊢
    rw [<-hx,e1];rfl
   ·exact hx
  ·exact xZ h hs
  ·simp at h
def okF (d:DV):Bool:=d.labs noF&&d.noF
def St.dropF (s:St):St:=
 let ts:=(s.al.filter fun p=>!okF p.2).map (·.1)
 {s with al:=ded ts s.al,ds:=ts++s.ds }
theorem uL {s:St} {p:Nat×DV} (h:p∈s.dropF.al):lget s.al p.1=some p.2/\okF p.2=true:=by
 obtain ⟨h1,h2⟩:=kc h
 refine ⟨h2,?_⟩
 cases hk:okF p.2 with
 | true=>rfl
 | false=>exact absurd (List.mem_map.2 ⟨(p.1,p.2),List.mem_filter.2 ⟨ai h2,by simp [hk]⟩,rfl⟩) h1
theorem Ck (s:St):Up s s.dropF:=fun b h=>⟨fun t ht=>by
 simp only [St.dropF,List.mem_append,not_or] at ht ⊢
 rw [qr ht.1];exact h.sl t ht.2,h.lb,h.ce⟩
theorem xW {s:St} (h:s.ok):s.dropF.ok:=⟨fun t x hx=>h.1 t x (uL (ai hx)).1,h.2⟩
theorem zF (s:St) (t:Nat) (x:PV) (hx:lget (dal s.dropF.al) t=some x):am noF x=true:=by
 rw [aZ] at hx
 cases hd:lget s.dropF.al t with
 | none=>rw [hd] at hx;simp at hx
 | some d=>
  rw [hd] at hx;simp at hx;subst hx
  have:=(uL (ai hd)).2
  simp only [okF,Bool.and_eq_true] at this
  exact jE this.1 (.inl this.2)
theorem xV (s:St):Weak E K (dal s.al) (dlb s.L) (dal s.dropF.al) (dlb s.dropF.L):=Weak.sub fun p hp=>by
 obtain ⟨q,hq,rfl⟩:=List.mem_map.1 hp
 simp only;rw [aZ,(uL hq).1];rfl
def sq:Nat->Nat
 | 1=>2
 | 2=>1
 | n=>n
theorem GI (n:Nat):sq (sq n)=n:=by
 match n with
 | 0=>rfl
 | 1=>rfl
 | 2=>rfl
 | n+3=>rfl
def SwC (x y:PV):Prop:=(x=y/\am noF x=true)\/∃q c n co,x = .fs q c n co/\ag (fun _=>false) c=true/\y = .fs (sq q) c n co
theorem VR.sw {w:World} {σ:Sig} {av:Nat->Prop} {x y:PV} {v:Value} (h:VR w σ av x v) (hs:SwC x y):VR w ⟨σ.lab,fun q β add=>σ.fam (sq q) β add⟩ av y v:=by
 rcases hs with ⟨rfl,hn⟩ | ⟨q,c,n,co,rfl,hc,rfl⟩
 ·exact h.monoN hn (fun _ _ _ h=>h) (Nat.le_refl _) fun _ _ h=>⟨h,rfl⟩
 ·cases h with
  | fsE a cap hc=>exact .fsE a cap hc
  | fs hf hh hfr hl hv hn hc' hz=>exact .fs (by simpa [GI] using hf) hh hfr hl (fun i x v hx hv'=>(hv i x v hx hv').pure (az hc hx) fun _ h=>h) hn hc' hz
theorem Weak.recol {al:Al} {L L':Lb} (hal:∀t x,lget al t=some x->am noF x=true) (hK:¬K de) (hG:GOK E)
  (hL:∀l,(lget L l=none/\lget L' l=none)\/(lget L l=some none/\lget L' l=some none)\/∃xs ys,lget L l=some (some xs)/\lget L' l=some (some ys)/\xs.length=ys.length/\∀(i:Nat) (x y:PV),xs[i]?=some x->ys[i]?=some y->SwC x y):Weak E K al L al L':=by
 intro A w σ a r
 let σ':Sig:=⟨σ.lab,fun q β add=>σ.fam (sq q) β add⟩
 have hlav:∀β,cd σ' L' β<->cd σ L β:=by
  intro β
  constructor
  ·rintro ⟨l,c,a,s,h1,h2⟩
   rcases hL l with ⟨_,h⟩ | ⟨_,h⟩ | ⟨xs,ys,h,h',_⟩
   ·rw [h] at h1;simp at h1
   ·rw [h] at h1;simp at h1
   ·exact ⟨l,xs,a,s,h,h2⟩
  ·rintro ⟨l,c,a,s,h1,h2⟩
   rcases hL l with ⟨h,_⟩ | ⟨h,_⟩ | ⟨xs,ys,h,h',_⟩
   ·rw [h] at h1;simp at h1
   ·rw [h] at h1;simp at h1
   ·exact ⟨l,ys,a,s,h',h2⟩
 have hfm:∀β,vA σ' β<->vA σ β:=fun β=>⟨fun ⟨q,ad,h⟩=>⟨sq q,ad,h⟩,fun ⟨q,ad,h⟩=>⟨sq q,ad,by show σ.fam (sq (sq q)) β ad;rw [GI];exact h⟩⟩
 have hav:∀β,avOf σ' L' β<->avOf σ L β:=fun β=>or_congr (hlav β) (hfm β)
 have havo:avo A σ' L'=avo A σ L:=by
  funext β
  show (A β\/avOf σ' L' β)=(A β\/avOf σ L β)
  rw [propext (hav β)]
 have hsw:∀{x y v},VR w σ (avo A σ L) x v->SwC x y->VR w σ' (avo A σ' L') y v:=fun h hs=>by rw [havo];exact h.sw hs
 refine ⟨σ',⟨fun t x hx=>let ⟨v,h1,h2⟩:=r.tmps t x hx;⟨v,h1,hsw h2 (.inl ⟨rfl,hal t x hx⟩)⟩,⟨?_,?_,?_,?_,?_⟩,fun g cells hg=>hsw (r.globals g cells hg) (.inl ⟨rfl,se (by simp [iY,am,hG g cells hg])⟩),r.nodefer⟩,
  ⟨Nat.le_refl _,fun _ _ _ h=>h,fun β _ hn=>⟨fun h=>hn ((hav β).1 h),rfl⟩,⟨rfl,rfl,rfl⟩,fun k=>absurd k hK⟩⟩
 ·intro l ys hl
  rcases hL l with ⟨_,h⟩ | ⟨_,h⟩ | ⟨xs,ys',h1,h2,h3,h4⟩
  ·rw [h] at hl;simp at hl
  ·rw [h] at hl;simp at hl
  ·rw [h2] at hl;simp at hl;subst hl
   rcases r.blocks.all l xs h1 with ⟨h5,h6⟩ | ⟨β,add,size,c,T,fr,hB⟩
   ·exact .inl ⟨h5,by subst h6;exact List.eq_nil_of_length_eq_zero h3.symm⟩
   ·refine .inr ⟨β,add,size,c,T,fr,⟨hB.sig,hB.heap,hB.hsz,h3▸hB.fits,fun i y hy=>?_,hB.frs⟩⟩
    have hi:i<xs.length:=by rw [h3];exact (List.getElem?_eq_some_iff.1 hy).1
    obtain ⟨v,h7,h8⟩:=hB.vals i _ (List.getElem?_eq_getElem hi)
    exact ⟨v,h7,hsw h8 (h4 i _ y (List.getElem?_eq_getElem hi) hy)⟩
 ·intro l l' c c' β a s a' s' h1 h2 h3 h4
  rcases hL l with ⟨_,h5⟩ | ⟨_,h5⟩ | ⟨xs,_,h5,_⟩
  ·rw [h5] at h1;simp at h1
  ·rw [h5] at h1;simp at h1
  ·rcases hL l' with ⟨_,h6⟩ | ⟨_,h6⟩ | ⟨xs',_,h6,_⟩
   ·rw [h6] at h2;simp at h2
   ·rw [h6] at h2;simp at h2
   ·exact r.blocks.inj l l' xs xs' β a s a' s' h5 h6 h3 h4
 ·intro l x hx
  have:=r.blocks.dom l x hx
  rcases hL l with ⟨h,_⟩ | ⟨_,h⟩ | ⟨_,_,_,h,_⟩
  ·exact absurd h this
  ·rw [h];simp
  ·rw [h];simp
 ·intro β hA
  exact ⟨(r.blocks.lo β hA).1,fun h=>(r.blocks.lo β hA).2 ((hav β).1 h)⟩
 ·refine ⟨fun q β add h=>⟨(r.blocks.fr.fam _ β add h).1,fun k=>(r.blocks.fr.fam _ β add h).2 ((hlav β).1 k)⟩,fun q β add h=>r.blocks.fr.cel _ β add h,fun q q' β add add' h h'=>?_⟩
  obtain ⟨e1,e2⟩:=r.blocks.fr.one _ _ β add add' h h'
  refine ⟨?_,e2⟩
  have:=congrArg sq e1
  simpa [GI] using this
def famQ:(t:ET)->List t.T->Option DC
 | .tf q t,x=>if t.noF=true then some (.ls (.tf (sq q) t) x) else none
 | _,_=>none
def swW (L:DLb):DLb->Option DLb
 | []=>some []
 | (l,_)::r=>match lget L l with
  | some (.ls t x)=>match famQ t x with
   | some c=>match swW L r with
    | some wl=>some ((l,c)::wl)
    | none=>none
   | none=>if t.noF=true then swW L r else none
  | some c=>if zI c=true then swW L r else none
  | none=>swW L r
def SwD (c c':DC):Prop:=(c=c'/\zI c=true)\/∃t x,c = .ls t x/\famQ t x=some c'
theorem ug {L:DLb}:∀{r wl:DLb},swW L r=some wl->(∀p∈wl,∃c,lget L p.1=some c/\SwD c p.2)/\∀p∈r,p.1∈keys wl\/∀c,lget L p.1=some c->zI c=true
 | [],wl,h=>by simp [swW] at h;subst h;simp
 | (l,_)::r,wl,h=>by
  simp only [swW] at h
  split at h
  ·rename_i t x hl
   split at h
   ·rename_i c hc
    split at h
    ·rename_i wl' hw
     simp at h;subst h
     obtain ⟨h1,h2⟩:=ug hw
     refine ⟨fun p hp=>?_,fun p hp=>?_⟩
     ·rcases List.mem_cons.1 hp with rfl | hp
      ·exact ⟨_,hl,.inr ⟨t,x,rfl,hc⟩⟩
      ·exact h1 p hp
     ·rcases List.mem_cons.1 hp with rfl | hp
      ·exact .inl (by simp [keys])
      ·exact (h2 p hp).imp (fun h=>by simp only [keys,List.map_cons,List.mem_cons];exact .inr h) id
    ·simp at h
   ·split at h
    ·rename_i ht
     obtain ⟨h1,h2⟩:=ug h
     refine ⟨h1,fun p hp=>?_⟩
     rcases List.mem_cons.1 hp with rfl | hp
     ·exact .inr fun c hc=>by simp only at hc;rw [hl] at hc;simp at hc;subst hc;exact ht
     ·exact h2 p hp
    ·simp at h
  ·rename_i c hcn hl
   split at h
   ·rename_i hd
    obtain ⟨h1,h2⟩:=ug h
    refine ⟨h1,fun p hp=>?_⟩
    rcases List.mem_cons.1 hp with rfl | hp
    ·exact .inr fun c hc=>by simp only at hc;rw [hl] at hc;simp at hc;subst hc;exact hd
    ·exact h2 p hp
   ·simp at h
  ·rename_i hl
   obtain ⟨h1,h2⟩:=ug h
   refine ⟨h1,fun p hp=>?_⟩
   rcases List.mem_cons.1 hp with rfl | hp
   ·exact .inr fun c hc=>by simp only at hc;rw [hl] at hc;simp at hc
   ·exact h2 p hp
theorem Fm {c c':DC} (h:SwD c c'):(c.pv=none/\c'.pv=none)\/∃xs ys,c.pv=some xs/\c'.pv=some ys/\xs.length=ys.length/\∀(i:Nat) (x y:PV),xs[i]?=some x->ys[i]?=some y->SwC x y:=by
 rcases h with ⟨rfl,h⟩ | ⟨t,x,rfl,h⟩
 ·cases hc:c.pv with
  | none=>exact .inl ⟨rfl,rfl⟩
  | some xs=>exact .inr ⟨xs,xs,rfl,rfl,rfl,fun i x y hx hy=>.inl ⟨by rw [hx] at hy;simpa using hy,az (Ct h hc) hx⟩⟩
 ·right
  unfold famQ at h
  split at h
  ·rename_i q t x
   split at h
   ·rename_i ht
    simp at h;subst h
    refine ⟨_,_,rfl,rfl,?_,fun i a b ha hb=>?_⟩
    ·rw [bD,bD,jg,jg];rfl
    ·have e1:∀q (l:List (List t.T)),fl (el (.tf q t)) l=l.map fun x=>PV.fs q (fl (el t) x) x.length none:=fun q l=>by
      induction l with
      | nil=>rfl
      | cons x l ih=>rw [cj,ih];rfl
     rw [e1] at ha hb
     simp only [List.getElem?_map,Option.map_eq_some_iff] at ha hb
     obtain ⟨z,hz,rfl⟩:=ha
     obtain ⟨z',hz',rfl⟩:=hb
     have hz2:(x:List (List t.T))[i]?=some z':=hz'
     rw [hz] at hz2;simp at hz2;subst hz2
     exact .inr ⟨_,_,_,_,rfl,hY ht z,rfl⟩
   ·simp at h
  ·simp at h
theorem GF {s:St} {wl:DLb} (h:swW s.L s.L=some wl) (hal:∀t x,lget (dal s.al) t=some x->am noF x=true) (hK:¬K de) (hG:GOK E) :
  Weak E K (dal s.al) (dlb s.L) (dal s.al) (dlb (lupd s.L wl)):=by
 obtain ⟨h1,h2⟩:=ug h
 refine Weak.recol hal hK hG fun l=>?_
 rw [an,an]
 have key:∀{c c'},lget s.L l=some c->lget (lupd s.L wl) l=some c'->SwD c c'->(Option.map DC.pv (lget s.L l)=none/\Option.map DC.pv (lget (lupd s.L wl) l)=none)\/(Option.map DC.pv (lget s.L l)=some none/\Option.map DC.pv (lget (lupd s.L wl) l)=some none)\/∃xs ys,Option.map DC.pv (lget s.L l)=some (some xs)/\Option.map DC.pv (lget (lupd s.L wl) l)=some (some ys)/\xs.length=ys.length/\∀(i:Nat) (x y:PV),xs[i]?=some x->ys[i]?=some y->SwC x y:=by
  intro c c' e1 e2 hs
  rw [e1,e2]
  rcases Fm hs with ⟨h3,h4⟩ | ⟨xs,ys,h3,h4,h5,h6⟩
  ·exact .inr (.inl ⟨by simp [h3],by simp [h4]⟩)
  ·exact .inr (.inr ⟨xs,ys,by simp [h3],by simp [h4],h5,h6⟩)
 rcases iQ wl s.L l with ⟨p,hp,rfl,h3⟩ | ⟨h3,h4⟩
 ·obtain ⟨c,h5,h6⟩:=h1 p hp
  exact key h5 h3 h6
 ·cases hc:lget s.L l with
  | none=>exact .inl ⟨rfl,by rw [h4,hc];rfl⟩
  | some c=>
   rw [hc] at key h4
   refine key rfl h4 (.inl ⟨rfl,?_⟩)
   rcases h2 (l,c) (ai hc) with h5 | h5
   ·obtain ⟨p,hp,e⟩:=List.mem_map.1 h5
    exact absurd e (h3 p hp)
   ·exact h5 c hc
def St.swF {R:Type} (s:St) (k:St->Option R):Option R:=match swW s.dropF.L s.dropF.L with
 | some wl=>k (s.dropF.wr wl (wl.map fun p=>(p.1,none)))
 | none=>none
theorem Kl {s:St} {k:St->Option R} (hK:¬K de) (hG:GOK E) (h:s.swF k=some r) (hs:s.ok):∃s',Up s s'/\s'.ok/\k s'=some r/\Weak E K (dal s.al) (dlb s.L) (dal s'.al) (dlb s'.L):=by
 unfold St.swF at h
 split at h
 ·rename_i wl hw
  refine ⟨_,(Ck s).trans (u9 fun p hp=>.inl (List.mem_map.2 ⟨p,hp,rfl⟩)),va (xW hs) fun p hp=>?_,h,(xV s).trans (GF hw (zF s) hK hG)⟩
  obtain ⟨c,h1,h2⟩:=(ug hw).1 p hp
  rcases h2 with ⟨rfl,_⟩ | ⟨t,x,rfl,h2⟩
  ·exact (xW hs).2 _ _ h1
  ·unfold famQ at h2
   split at h2
   ·split at h2
    ·simp at h2;rw [<-h2];trivial
    ·simp at h2
   ·simp at h2
 ·simp at h
def dFzO:List (Nat×ET)->DAl->DLb->DLb->(DAl->DLb->DLb->Option R)->Option R
 | [],al,L,wl,k=>k al L wl
 | (t,e)::r,al,L,wl,k=>match lget al t with
  | some (.rw lab sz off n co w)=>if mN L lab=true then srcL L e (.rw lab sz off n co w) fun l=>dFzO r ((t,.sl e l)::al) (lset L lab .gone) (wl++[(lab,.gone)]) k else none
  | some _=>dFzO r al L wl k
  | none=>none
def SubA (a b:Al):Prop:=∀t y,lget a t=some y->lget b t=some y
def SubB (a b:Lb):Prop:=∀l y,lget a l=some y->lget b l=some y
theorem AQ:∀{fz:List (Nat×ET)} {al:DAl} {L wl:DLb} {k:DAl->DLb->DLb->Option R},dFzO fz al L wl k=some r->alOk al->lbOk L->∃al' L' w0,k al' L' (wl++w0)=some r/\alOk al'/\lbOk L'/\(∀p∈w0,p.2 = .gone/\lget L p.1≠none) /\
  (∀l,lget L' l≠none<->lget L l≠none)/\(∀l cs,lget L' l=some (.cs cs)->lget L l=some (.cs cs)) /\
  ∀A w σ alw Lw a,Rel E A w σ alw Lw a->SubA (dal al) alw->SubB (dlb L) Lw->∃alw' σ',Rel E A w σ' alw' (lupd Lw (dlb w0)) a/\SubA (dal al') alw'/\SubB (dlb L') (lupd Lw (dlb w0))/\Grow top w σ Lw w σ' (lupd Lw (dlb w0))
 | [],al,L,wl,k,h,ha,hl=>⟨al,L,[],by simpa [dFzO] using h,ha,hl,by simp,fun _=>Iff.rfl,fun _ _ h=>h,fun A w σ alw Lw a r h1 h2=>⟨alw,σ,r,h1,h2,Grow.refl _ _ _ _⟩⟩
 | (t,e)::fz,al,L,wl,k,h,ha,hl=>by
  simp only [dFzO] at h
  split at h
  ·rename_i lab sz off n co w ht
   split at h
   ·rename_i hp
    obtain ⟨l,cells,hc,h'⟩:=iG h
    obtain ⟨cc,c1,c2,c3,c4,c5⟩:=hc.rw _ _ _ _ _ _ rfl
    subst c5;subst c3
    have hex:lget L lab≠none:=fun e=>by rw [an,e] at c1;simp at c1
    obtain ⟨al',L',w0,k1,k2,k3,k4,k5,k6,k7⟩:=AQ h' (fun u x hx=>by
     simp only [lget] at hx
     split at hx
     ·simp at hx;subst hx;trivial
     ·exact ha u x hx) (fun u c hc=>by
     rw [ao] at hc
     split at hc
     ·simp at hc;subst hc;trivial
     ·exact hl u c hc)
    refine ⟨al',L',(lab,.gone)::w0,by simpa using k1,k2,k3,fun p hp=>?_,fun l'=>?_,fun l' cs hcs=>?_,fun A w σ alw Lw a r h1 h2=>?_⟩
    ·rcases List.mem_cons.1 hp with rfl | hp
     ·exact ⟨rfl,hex⟩
     ·obtain ⟨e1,e2⟩:=k4 p hp
      refine ⟨e1,?_⟩
      rw [ao] at e2
      split at e2
      ·rename_i e;rw [<-e];exact hex
      ·exact e2
    ·rw [k5 l',ao]
     split
     ·rename_i e;subst e;simp [hex]
     ·rfl
    ·have:=k6 l' cs hcs
     rw [ao] at this
     split at this
     ·simp at this
     ·exact this
    ·have hw:=Weak.frz (E:=E) (K:=top) (al:=alw) (L:=Lw) (h2 _ _ c1) (off:=off*e.sz) (sz:=e.sz) (n:=l.length) (co:=co) (h1 _ _ (by rw [aZ,ht];rfl)) c4 c2 (by
      rw [<-c4]
      unfold mN at hp
      split at hp
      ·rename_i c hcc
       rw [an,hcc] at c1
       exact ly (lA hp (by simpa using c1)) _ _
      ·simp at hp) hc.le
     obtain ⟨σ1,r1,g1⟩:=hw A w σ a r
     obtain ⟨alw',σ2,r2,s1,s2,g2⟩:=k7 A w σ1 _ _ a r1 (fun u y hy=>by
      rw [aZ] at hy
      simp only [lget] at hy ⊢
      split
      ·rename_i e;rw [if_pos e] at hy;simp at hy;rw [<-hy];rfl
      ·rename_i e;rw [if_neg e] at hy;exact h1 u y (by rw [aZ];exact hy)) (fun u y hy=>by
      rw [an,ao] at hy
      rw [ao]
      split
      ·rename_i e;rw [if_pos e] at hy;simpa [DC.pv] using hy
      ·rename_i e;rw [if_neg e] at hy;exact h2 u y (by rw [an];exact hy))
     exact ⟨alw',σ2,r2,s1,s2,g1.trans g2⟩
   ·simp at h
  ·exact AQ h ha hl
  ·simp at h
def dOpF (E:Env) (G:GTab) (C:CT E) (oh:OH) (o:Oper) (al:DAl) (L:DLb) (nl:Nat) (k:DV->DLb->DL->Option R):Option R:=match oh.fz with
 | []=>dOpX E G C oh o al L nl k
 | fz=>dFzO fz al L [] fun al' L' w0=>dOpX E G C oh o al' L' nl fun x wl dl=>k x (w0++wl) (w0.map (fun p=>(p.1,none))++dl)
theorem Jh {G:GTab} (hG:E.G=gtPV G) (hE:GOK E) {C:CT E} {oh:OH} {o:Oper} {nl:Nat} {ra:DAl} {rl:DLb} {k:DV->DLb->DL->Option R} (hal:alOk ra) (hrl:lbOk rl) (hn:lget rl nl=none) (h:dOpF E G C oh o ra rl nl k=some r):OpS E o ra rl k r:=by
 unfold dOpF at h
 split at h
 ·exact AM hG hE hal hrl hn h
 ·obtain ⟨al',L',w0,k1,k2,k3,k4,k5,k6,k7⟩:=AQ (E:=E) h hal hrl
  have hn':lget L' nl=none:=by
   cases hc:lget L' nl with
   | none=>rfl
   | some c=>exact absurd hn ((k5 nl).1 (by rw [hc];simp))
  obtain ⟨x,wl,dl,hA,hx,hwl,hd,hk⟩:=AM hG hE k2 k3 hn' k1
  refine ⟨x,w0++wl,w0.map (fun p=>(p.1,none))++dl,?_,hx,fun p hp=>?_,fun p hp=>?_,by simpa using hk⟩
  ·intro A w σ alw Lw a r h1 h2 h3
   obtain ⟨alw',σ1,r1,s1,s2,g1⟩:=k7 A w σ alw Lw a r h1 h2
   have e1:dlb (w0++wl)=dlb w0++dlb wl:=List.map_append
   refine oC (hA A w σ1 alw' _ a r1 s1 s2 fun p hp=>?_) ?_ fun _ _ _ h=>h
   ·rcases h3 p (by rw [e1];exact List.mem_append_right _ hp) with h4 | h4
    ·left
     rw [an] at h4 ⊢
     have:lget rl p.1≠none:=fun e=>by rw [e] at h4;simp at h4
     have:=(k5 p.1).2 this
     cases hc:lget L' p.1 with
     | none=>exact absurd hc this
     | some c=>simp
    ·right
     rcases iQ (dlb w0) Lw p.1 with ⟨q,hq,e2,_⟩ | ⟨_,e2⟩
     ·exfalso
      obtain ⟨q',hq',rfl⟩:=List.mem_map.1 hq
      have e3:=(k4 q' hq').2
      cases hc:lget rl q'.1 with
      | none=>exact e3 hc
      | some c=>
       have:=h2 q'.1 c.pv (by rw [an,hc];rfl)
       simp only at e2
       rw [e2,h4] at this;simp at this
     ·rw [e2];exact h4
   ·rintro a' w' ⟨σ',c,f1,f2,f3,f4⟩
    have e2:lupd Lw (dlb (w0++wl))=lupd (lupd Lw (dlb w0)) (dlb wl):=by rw [e1];unfold lupd;rw [List.foldl_append]
    rw [<-e2] at f2 f3 f4
    exact ⟨σ',c,f1,f2,f3,g1.trans f4⟩
  ·rcases List.mem_append.1 hp with hp | hp
   ·rw [(k4 p hp).1];trivial
   ·exact hwl p hp
  ·rcases List.mem_append.1 hp with hp | hp
   ·left;exact List.mem_append_left _ (List.mem_map.2 ⟨p,hp,rfl⟩)
   ·rcases hd p hp with h1 | ⟨cs,cs',e1,e2,e3,e4⟩
    ·exact .inl (List.mem_append_right _ h1)
    ·exact .inr ⟨cs,cs',k6 _ _ e1,e2,e3,fun i hi=>e4 i fun hm=>hi (List.mem_append_right _ hm)⟩
def uK (ops:Array Oper) (al:DAl) (o:Oper):Option Bool:=
 match o.guard with
 | none=>some true
 | some (j,want)=>match (ops[j]?).bind (·.dst) with
  | some d=>match lget al d with
   | some (.bool b)=>some (b==want)
   | some .dead=>some false
   | _=>none
  | none=>none
theorem jh {al:DAl} {o:Oper} {b:Bool} (h:uK ops al o=some b):ge ops (dal al) o=some b:=by
 unfold uK at h
 unfold ge
 split at h
 ·rename_i hg;rw [hg];exact h
 ·rename_i j want hg
  rw [hg]
  simp only
  split at h
  ·rename_i d hd
   simp only [hd,aZ]
   split at h
   ·rename_i c hc;rw [hc];exact h
   ·rename_i hc;rw [hc];exact h
   ·simp at h
  ·simp at h
def Ah (sp:Bool) (x:DV) (k:DV->Option R):Option R:=match sp with
 | true=>match x with
  | .bool b=>cond b (k (.bool true)) (k (.bool false))
  | x=>k x
 | false=>k x
theorem za {sp:Bool} {x:DV} {k:DV->Option R} (h:Ah sp x k=some r):k x=some r:=by
 unfold Ah at h
 split at h
 ·split at h
  ·rename_i b;cases b <;> exact h
  ·exact h
 ·exact h
theorem yA {P:Program} {w:World} {T e:TypeId} (hu:P.underlying T=some (.slice e)) (D:Nat) (p:Option Addr) (n c:Nat):(Op.equalIn (D+1) T (.slice p n c) (.slice none 0 0)).run P w = .ok p.isNone w:=by
 cases p <;> simp [Op.equalIn,run_underlying hu]
theorem CQ {al:Al} {L:Lb} {d:Option Tmp} {T yt e ty:TypeId} {pos:String} {after:Array Edge} {g:Option (Nat×Bool)} {x y:Operand} {m:Nat} {z:PV} (hz:(∃cells co,z = .ro cells m co)\/∃l off sz co,z = .rw l off m sz co) (hu:E.P.underlying T=some (.slice e)) (hx:xev E.G al x=some z) (hy:xev E.G al y=some .nils)
  (hd:∀t,d=some t->t<n) (hg:ge ops al ⟨d,.binOp .eql T x y yt,ty,pos,after,g⟩=some true) (k:∀b:Bool,(b=true->m=0)->AWl E K n ops rest Q (oset d (.bool b) al) L) :
  AWl E K n ops (⟨d,.binOp .eql T x y yt,ty,pos,after,g⟩::rest) Q al L:=by
 intro A w σ a r t
 have hvx:=aQ r (fun _ _ h=>h) hx
 have hvy:=aQ r (fun _ _ h=>h) hy
 obtain ⟨b,hb,hrun⟩:∃b:Bool,(b=true->m=0)/\(execOp a.eval ⟨d,.binOp .eql T x y yt,ty,pos,after,g⟩).run E.P w = .ok (.value (.bool b)) w:=by
  generalize hv:a.eval x=v at *
  generalize hv':a.eval y=v' at *
  cases hvy
  obtain ⟨p,cap,rfl,hp⟩:∃p cap,v = .slice p m cap/\(p=none->m=0):=by
   rcases hz with ⟨cells,co,rfl⟩ | ⟨l,off,sz,co,rfl⟩
   ·cases hvx with
    | roE p cap hc=>exact ⟨p,cap,rfl,fun _=>rfl⟩
    | @ro _ _ _ β add cap cs him hl hv2 hn hc=>exact ⟨_,cap,rfl,fun h=>by simp at h⟩
   ·cases hvx with
    | rwE p hc=>exact ⟨p,0,rfl,fun _=>rfl⟩
    | rw hs hn hc hsz=>exact ⟨_,_,rfl,fun h=>by simp at h⟩
  refine ⟨p.isNone,fun h=>hp (by simpa using h),?_⟩
  have he:(Op.equal T (.slice p m cap) (.slice none 0 0)).run E.P w = .ok p.isNone w:=yA hu 9999 p m cap
  have h1:=lv (P:=E.P) (w:=w) (op:=.eql) (.inl rfl) (T:=T) (u:=.slice p m cap) (v:=.slice none 0 0) rfl he
  have h2:=jy (P:=E.P) (w:=w) (op:=.eql) (T:=T) (x:=x) (y:=y) (u:=.slice p m cap) (v:=.slice none 0 0) rfl
  simp at h1
  simp [execOp,hv,hv',h1,h2]
 have hop:Oper.wp E.P ⟨d,.binOp .eql T x y yt,ty,pos,after,g⟩ a w (H7 A w σ L a d (.bool b) []) (fun _ _ _=>False):=by
  unfold Oper.wp
  rw [hrun]
  exact ⟨σ,.bool b,rfl,.bool b,r.blocks,Grow.refl _ _ _ _⟩
 simp only [wpListIn]
 rw [if_pos (km r hg)]
 refine gL (qx (ur hop ?_) hop) ?_ fun _ _ _ h=>h.elim
 ·rintro a' w' ⟨σ',c,rfl,_⟩;exact nY _ _ _
 rintro a' w' ⟨σ',c,rfl,hv,hb',hgr⟩
 have r':=(r.grow hb' hgr).put (d:=d) (fun u hu=>by rw [t];exact hd u hu) hv
 refine cF ?_ _ _ _ (k b hb A w' σ' _ r' (by rw [kA];exact t))
 exact fun e a w h=>Post.trans (hgr.weaken fun _ _=>trivial) h
def lU (a b:Option R):Option R:=open Classical in if a=b then a else none
@[simp] theorem KS (a:Option R):lU a a=a:=by simp [lU]
theorem CF {a b:Option R} (h:lU a b=some r):a=some r/\b=some r:=by
 unfold lU at h
 split at h
 ·rename_i e;exact ⟨h,e▸h⟩
 ·simp at h
def J3 (P:Program) (G:GTab) (al:DAl) (o:Oper):Option Bool:=match o.op with
 | .binOp .eql T x y _=>match P.underlying T with
  | some (.slice _)=>match dev G al x with
   | some (.sl _ l)=>match dev G al y with
    | some .nils=>some l.isEmpty
    | _=>none
   | some (.rw _ _ _ m _ _)=>match dev G al y with
    | some .nils=>some (Nat.beq m 0)
    | _=>none
   | _=>none
  | _=>none
 | _=>none
abbrev OHs:=List (Nat×OH)
def ohOf (hs:OHs) (i:Nat):OH:=match lget hs i with
 | some h=>h
 | none=>{}
def dOps (E:Env) (G:GTab) (C:CT E) (n:Nat) (kf:Bool) (hs:OHs) (ops:Array Oper) {R:Type}:List Oper->Nat->St->(St->Option R)->Option R
 | [],_,s,k=>k s
 | o::rest,i,s,k=>match uK ops s.al o with
  | some true=>match (ohOf hs i).nq with
   | true=>match J3 E.P G s.al o with
    | some e=>if kJ n o.dst=true then cond e (lU (dOps E G C n kf hs ops rest (i+1) (s.set o.dst (.bool true)) k) (dOps E G C n kf hs ops rest (i+1) (s.set o.dst (.bool false)) k)) (dOps E G C n kf hs ops rest (i+1) (s.set o.dst (.bool false)) k) else none
    | none=>none
   | false=>match (ohOf hs i).yi with
    | some j=>match C.y j with
     | some con=>if kJ n o.dst=true then dYld G con o s.al s.L (frOf s.L) fun wl dl=>dOps E G C n kf hs ops rest (i+1) ((s.wr wl dl).set o.dst (.bool true)) k else none
     | none=>none
    | none=>match (ohOf hs i).wk with
    | false=>dFz (ohOf hs i).fz s fun s=>match uK ops s.al o with
     | some true=>if kJ n o.dst=true then dOpX E G C (ohOf hs i) o s.al s.L (frOf s.L) fun x wl dl=>Ah (ohOf hs i).split x fun x=>dOps E G C n kf hs ops rest (i+1) ((s.wr wl dl).set o.dst x) k else none
     | _=>none
    | true=>match uK ops s.dropF.al o with
     | some true=>match (ohOf hs i).io with
      | some j=>if kJ n o.dst=true/\kf=true then rX true G (C.i j) o s.dropF.al s.dropF.L (frOf s.dropF.L) fun x wl dl=>dOps E G C n kf hs ops rest (i+1) ((s.dropF.wr wl dl).set o.dst x) k else none
      | none=>none
     | _=>none
  | some false=>if kJ n o.dst=true then dOps E G C n kf hs ops rest (i+1) (s.set o.dst .dead) k else none
  | none=>none
theorem qv {G:GTab} {C:CT E} {hs:OHs} {kf:Bool} (hkf:kf=true->¬K de) (hG:E.G=gtPV G) (hE:GOK E):∀{rest:List Oper} {i:Nat} {s:St} {k:St->Option R},dOps E G C n kf hs ops rest i s k=some r->s.ok ->
  (∀s',Up s s'->s'.ok->k s'=some r->Q .normal (dal s'.al) (dlb s'.L))->AWl E K n ops rest Q (dal s.al) (dlb s.L)
 | [],i,s,k,h,ho,hq=>qy (hq s (.refl s) ho h)
 | o::rest,i,s,k,h,ho,hq=>by
  simp only [dOps] at h
  split at h
  ·rename_i hw
   split at h
   ·split at h
    rotate_left
    ·simp at h
    rename_i e he
    split at h
    rotate_left
    ·simp at h
    rename_i hdst
    have go:∀b,dOps E G C n kf hs ops rest (i+1) (s.set o.dst (.bool b)) k=some r->AWl E K n ops rest Q (oset o.dst (.bool b) (dal s.al)) (dlb s.L):=by
     intro b hb
     have ih:=qv hkf hG hE hb (mu ho (d:=o.dst) (x:=.bool b) trivial) fun s' u' o' k'=>hq s' ((mt _ _ _).trans u') o' k'
     rw [ox,ov] at ih
     exact ih
    obtain ⟨dst,op,ty,pos,after,g⟩:=o
    unfold J3 at he
    simp only at he
    split at he
    ·rename_i T x y yt
     split at he
     ·rename_i eT hu
      split at he
      ·rename_i tt l hx
       split at he
       ·rename_i hy
        simp at he;subst he
        have hx':=(bj ho.1 hx).1
        have hy':=(bj ho.1 hy).1
        rw [<-hG] at hx' hy'
        refine CQ (.inl ⟨_,_,rfl⟩) hu hx' hy' (iE hdst) (jh hw) fun b hb=>?_
        cases hl:l.isEmpty with
        | true=>
         rw [hl] at h
         obtain ⟨h1,h2⟩:=CF h
         cases b with
         | true=>exact go true h1
         | false=>exact go false h2
        | false=>
         rw [hl] at h
         cases b with
         | true=>
          have:l.length=0:=hb rfl
          have:l=[]:=List.eq_nil_of_length_eq_zero this
          subst this;simp at hl
         | false=>exact go false h
       ·simp at he
      ·rename_i l0 sz0 off0 m co0 w0 hx
       split at he
       ·rename_i hy
        simp at he;subst he
        have hx':=(bj ho.1 hx).1
        have hy':=(bj ho.1 hy).1
        rw [<-hG] at hx' hy'
        refine CQ (.inr ⟨_,_,_,_,rfl⟩) hu hx' hy' (iE hdst) (jh hw) fun b hb=>?_
        cases hl:Nat.beq m 0 with
        | true=>
         rw [hl] at h
         obtain ⟨h1,h2⟩:=CF h
         cases b with
         | true=>exact go true h1
         | false=>exact go false h2
        | false=>
         rw [hl] at h
         cases b with
         | true=>
          have:m=0:=hb rfl
          subst this;simp at hl
         | false=>exact go false h
       ·simp at he
      ·simp at he
     ·simp at he
    ·simp at he
   split at h
   ·-- a round of a range over a function
    split at h
    rotate_left
    ·simp at h
    rename_i con _
    split at h
    rotate_left
    ·simp at h
    rename_i hdst
    obtain ⟨wl,dl,hwl,hd,h,hA⟩:=Jg (K:=K) (n:=n) (Q:=Q) (ops:=ops) (rest:=rest) hG hE ho h (iE hdst) (jh hw)
    have u2:Up s ((s.wr wl dl).set o.dst (.bool true)):=(u9 hd).trans (mt _ _ _)
    have o2:((s.wr wl dl).set o.dst (.bool true)).ok:=mu (va ho hwl) (x:=.bool true) trivial
    have ih:=qv hkf hG hE h o2 fun s' u' o' k'=>hq s' (u2.trans u') o' k'
    rw [ox,ov] at ih
    refine hA ?_
    rw [py];exact ih
   split at h
   rotate_left
   ·-- families' blocks may be written
    split at h
    rotate_left
    ·simp at h
    rename_i hw1
    have hw1:=jh hw1
    split at h
    rotate_left
    ·simp at h
    split at h
    rotate_left
    ·simp at h
    rename_i hc
    obtain ⟨hdst,hkf'⟩:=hc
    have hKf:=hkf hkf'
    have o1:s.dropF.ok:=xW ho
    obtain ⟨x,wl,dl,hA,hx,hwl,hd,h⟩:=nF (wk:=true) hG hE o1.1 o1.2 h
    have u2:Up s.dropF ((s.dropF.wr wl dl).set o.dst x):=(u9 hd).trans (mt _ _ _)
    have o2:((s.dropF.wr wl dl).set o.dst x).ok:=mu (va o1 hwl) hx
    have ih:=qv hkf hG hE h o2 fun s' u' o' k'=>hq s' ((Ck s).trans (u2.trans u')) o' k'
    rw [ox,ov] at ih
    refine tW (xV s) (JD hA hE (zF s) hKf (fun l cells h1 h2=>by rw [h1] at h2;simp at h2) (iE hdst) (fun _ _ h=>h) (fun _ _ h=>h) (fun p _=>?_) hw1 ?_)
    ·cases h:lget (dlb s.dropF.L) p.1 with
     | none=>exact .inr rfl
     | some y=>exact .inl (by simp)
    ·rw [py];exact ih
   obtain ⟨s1,u1,o1,h,w1⟩:=xZ (E:=E) (K:=K) h ho
   split at h
   rotate_left
   ·simp at h
   rename_i hw1
   have hw1:=jh hw1
   split at h
   rotate_left
   ·simp at h
   rename_i hdst
   obtain ⟨x,wl,dl,hA,hx,hwl,hd,h⟩:=AM hG hE o1.1 o1.2 (wt (Nat.le_refl _)) h
   have h:=za h
   have u2:Up s1 ((s1.wr wl dl).set o.dst x):=(u9 hd).trans (mt _ _ _)
   have o2:((s1.wr wl dl).set o.dst x).ok:=mu (va o1 hwl) hx
   have ih:=qv hkf hG hE h o2 fun s' u' o' k'=>hq s' (u1.trans (u2.trans u')) o' k'
   rw [ox,ov] at ih
   refine tW w1 (pY hA (iE hdst) (fun _ _ h=>h) (fun _ _ h=>h) (fun p _=>?_) hw1 ?_)
   ·cases h:lget (dlb s1.L) p.1 with
    | none=>exact .inr rfl
    | some y=>exact .inl (by simp)
   ·rw [py];exact ih
  ·rename_i hw
   split at h
   ·rename_i hdst
    have ih:=qv hkf hG hE h (mu ho (d:=o.dst) (x:=.dead) trivial) fun s' u' o' k'=>hq s' ((mt _ _ _).trans u') o' k'
    rw [ox,ov] at ih
    exact CP (jh hw) (iE hdst) ih
   ·simp at h
  ·simp at h
end
end Go.SH
namespace Go.SH
theorem Jq (m i:Nat):bitB m i=m.testBit i:=by
 unfold bitB
 rw [Jr,Nat.testBit_eq_decide_div_mod_eq]
 congr 1
 show ((m >>> i) % 2=1)=_
 rw [Nat.shiftRight_eq_div_pow]
theorem xn (acc:List Nat):∀(es:List Nat) (i:Nat),(n9 acc es).testBit i=true->i∈es\/∃k∈es,(acc.getD k 0).testBit i=true
 | [],i,h=>by simp [n9] at h
 | k::r,i,h=>by
  have e:n9 acc (k::r)=((1 <<< k) ||| (acc.getD k 0)) ||| n9 acc r:=rfl
  rw [e,Nat.testBit_or,Nat.testBit_or,Bool.or_eq_true,Bool.or_eq_true] at h
  rcases h with (h | h) | h
  ·left
   rw [Nat.one_shiftLeft,Nat.testBit_two_pow] at h
   simp at h
   subst h;simp
  ·exact .inr ⟨k,by simp,h⟩
  ·rcases xn acc r i h with h | ⟨q,hq,h⟩
   ·exact .inl (by simp [h])
   ·exact .inr ⟨q,by simp [hq],h⟩
theorem ux:∀(os:List Oper) (acc:List Nat) (j:Nat),j<acc.length->(oN os acc)[j]?=acc[j]?
 | [],acc,j,_=>rfl
 | o::r,acc,j,h=>by
  rw [oN,ux r _ j (by simp;omega),List.getElem?_append_left h]
theorem BX:∀(os:List Oper) (acc:List Nat) (j:Nat) (o:Oper),os[j]?=some o->∃acc',acc'.length=acc.length+j/\(∀i,i<acc'.length->acc'[i]?=(oN os acc)[i]?)/\(oN os acc)[acc.length+j]?=some (n9 acc' (iK o))
 | [],acc,j,o,h=>by simp at h
 | o'::r,acc,0,o,h=>by
  simp at h;subst h
  refine ⟨acc,by simp,fun i hi=>by rw [oN,ux r _ i (by simp;omega),List.getElem?_append_left hi],?_⟩
  rw [oN,ux r _ _ (by simp),List.getElem?_append_right (by omega)];simp
 | o'::r,acc,j+1,o,h=>by
  simp at h
  obtain ⟨acc',h1,h2,h3⟩:=BX r (acc++[n9 acc (iK o')]) j o h
  refine ⟨acc',by rw [h1];simp;omega,fun i hi=>by rw [h2 i hi];rfl,?_⟩
  have e:acc.length+(j+1)=(acc++[n9 acc (iK o')]).length+j:=by simp;omega
  rw [e];exact h3
theorem xm {ops:Array Oper}:∀(m j i:Nat),j<m->j<ops.size->((oN ops.toList []).getD j 0).testBit i=true->i∈befs ops m j
 | 0,j,i,h,_,_=>by omega
 | m+1,j,i,h,hj,hb=>by
  have ho:ops.toList[j]?=some ops[j]:=by simp [hj]
  obtain ⟨acc',h1,h2,h3⟩:=BX ops.toList [] j _ ho
  simp only [List.length_nil,Nat.zero_add] at h1 h3
  rw [List.getD_eq_getElem?_getD,h3,Option.getD_some] at hb
  unfold befs
  have ho2:ops[j]?=some ops[j]:=by simp [hj]
  rw [ho2]
  simp only [List.mem_append,List.mem_flatMap]
  rcases xn acc' _ i hb with h' | ⟨k,hk,hb'⟩
  ·exact .inl h'
  ·right
   have hkl:k<acc'.length:=by
    rcases Nat.lt_or_ge k acc'.length with h | h
    ·exact h
    ·rw [List.getD_eq_getElem?_getD,List.getElem?_eq_none h] at hb';simp at hb'
   refine ⟨k,hk,xm m k i (by omega) (by omega) ?_⟩
   rw [List.getD_eq_getElem?_getD,<-h2 k hkl,<-List.getD_eq_getElem?_getD];exact hb'
theorem I5 {l:List Nat} {x:Nat}:hasN l x=true<->x∈l:=by
 unfold hasN
 rw [List.any_eq_true]
 constructor
 ·rintro ⟨y,hy,h⟩;rw [Nat.beq_eq] at h;subst h;exact hy
 ·intro h;exact ⟨x,h,by rw [Nat.beq_eq]⟩
theorem no {a b:List Nat} (h:px a b=false) {x:Nat} (ha:x∈a) (hb:x∈b):False:=by
 have:px a b=true:=by unfold px;rw [List.any_eq_true];exact ⟨x,ha,I5.2 hb⟩
 rw [h] at this;simp at this
theorem zi (mk:List Nat) (j:Nat) (rj wj:List Nat):∀(xs:List (List Nat×List Nat)) (s i:Nat) (ri wi:List Nat),xd mk j rj wj xs s=true->xs[i]?=some (ri,wi) ->
  bitB (mk.getD j 0) (s+i)=true\/(px wi (rj++wj)=false/\px wj ri=false)
 | [],s,i,ri,wi,_,h=>by simp at h
 | (ri',wi')::r,s,0,ri,wi,hp,h=>by
  simp at h;obtain ⟨rfl,rfl⟩:=h
  simp only [xd,Bool.and_eq_true,Bool.or_eq_true,Bool.not_eq_true',Bool.or_eq_false_iff] at hp
  exact hp.1
 | (ri',wi')::r,s,i+1,ri,wi,hp,h=>by
  simp only [xd,Bool.and_eq_true] at hp
  have:=zi mk j rj wj r (s+1) i ri wi hp.2 (by simpa using h)
  rwa [show s+1+i=s+(i+1) by omega] at this
theorem Ba (mk:List Nat):∀(xs pre:List (List Nat×List Nat)) (s i j:Nat) (ri wi rj wj:List Nat),allS mk pre xs s=true->pre.length=s->i<s+j->(pre++xs)[i]?=some (ri,wi)->xs[j]?=some (rj,wj) ->
  bitB (mk.getD (s+j) 0) i=true\/(px wi (rj++wj)=false/\px wj ri=false)
 | [],pre,s,i,j,ri,wi,rj,wj,_,_,_,_,h=>by simp at h
 | (rj',wj')::r,pre,s,i,0,ri,wi,rj,wj,ha,hl,hi,h1,h2=>by
  simp at h2;obtain ⟨rfl,rfl⟩:=h2
  simp only [allS,Bool.and_eq_true] at ha
  rw [List.getElem?_append_left (by omega)] at h1
  have:=zi mk s rj' wj' pre 0 i ri wi ha.1 h1
  simpa using this
 | (rj',wj')::r,pre,s,i,j+1,ri,wi,rj,wj,ha,hl,hi,h1,h2=>by
  simp only [allS,Bool.and_eq_true] at ha
  have:=Ba mk r (pre++[(rj',wj')]) (s+1) i j ri wi rj wj ha.2 (by simp;omega) (by omega) (by rw [List.append_assoc];exact h1) (by simpa using h2)
  rwa [show s+1+j=s+(j+1) by omega] at this
end Go.SH
namespace Go.SH
theorem zK {a b:List Lc} (h:vD a b=true):∃l,l∈a/\l∈b:=by
 simp only [vD,List.any_eq_true] at h
 obtain ⟨x,hx,y,hy,he⟩:=h
 simp at he;subst he
 exact ⟨x,hx,hy⟩
theorem memW {o:Oper} {f:Fp} {x:Lc} (h:x∈(fpW o f).map (·.1)):(∃d,x = .inl d/\d∈wrS o)\/∃l,x = .inr l/\l∈wrL f:=by
 unfold fpW at h
 rw [List.map_append,List.mem_append] at h
 rcases h with h | h
 ·left
  unfold wrS
  cases hd:o.dst with
  | none=>rw [hd] at h;simp at h
  | some d=>rw [hd] at h;simp at h;exact ⟨d,h,by simp⟩
 ·right
  unfold wrL
  cases hr:f.run with
  | false=>rw [hr] at h;simp at h
  | true=>
   rw [hr] at h
   simp only [if_true,List.map_map,List.mem_map,Function.comp] at h
   obtain ⟨p,hp,rfl⟩:=h
   exact ⟨p.1,rfl,by simp only [if_true];exact List.mem_map_of_mem hp⟩
theorem memR {ops:Array Oper} {o:Oper} {f:Fp} {x:Lc} (hra:∀p∈f.ra,p.1∈cW (jz o.op)) (h:x∈(fpR ops o f).map (·.1)):(∃d,x = .inl d/\d∈rdS ops o)\/∃l,x = .inr l/\l∈rdL f:=by
 unfold fpR at h
 rw [List.map_append,List.mem_append] at h
 rcases h with h | h
 ·left
  unfold rdS
  cases hd:pE ops o with
  | none=>rw [hd] at h;simp at h
  | some d=>rw [hd] at h;simp at h;exact ⟨d,h,by simp⟩
 ·cases hr:f.run with
  | false=>rw [hr] at h;simp at h
  | true=>
   rw [hr] at h
   simp only [if_true,List.map_append,List.map_map,List.mem_append,List.mem_map,Function.comp] at h
   rcases h with (⟨p,hp,rfl⟩ | ⟨p,hp,rfl⟩) | ⟨l,hl,rfl⟩
   ·exact .inl ⟨p.1,rfl,by unfold rdS;exact List.mem_append.2 (.inr (hra p hp))⟩
   ·exact .inr ⟨p.1,rfl,by unfold rdL;rw [if_pos hr];exact List.mem_append.2 (.inl (List.mem_map_of_mem hp))⟩
   ·exact .inr ⟨l,rfl,by unfold rdL;rw [if_pos hr];exact List.mem_append.2 (.inr hl)⟩
theorem Hj {ops:Array Oper} {fs:List Fp} (hlen:fs.length=ops.size) (hS:Ay ops=true) (hD:pureL fs=true\/Az ops fs=true)
  (hra:∀(i:Nat) (o:Oper) (f:Fp),ops[i]?=some o->fs[i]?=some f->∀p∈f.ra,p.1∈cW (jz o.op)):Hk ops fs=true:=by
 unfold Hk
 simp only [List.all_eq_true,List.mem_range]
 intro j hj i hi
 have hin:i<ops.size:=by omega
 have h1:ops[i]?=some ops[i]:=by simp [hin]
 have h2:fs[i]?=some fs[i]:=by simp [hlen,hin]
 have h3:ops[j]?=some ops[j]:=by simp [hj]
 have h4:fs[j]?=some fs[j]:=by simp [hlen,hj]
 have ri:=hra i _ _ h1 h2
 have rj:=hra j _ _ h3 h4
 have s1:(ops.toList.map fun o=>(rdS ops o,wrS o))[i]?=some (rdS ops ops[i],wrS ops[i]):=by simp [hin]
 have s2:(ops.toList.map fun o=>(rdS ops o,wrS o))[j]?=some (rdS ops ops[j],wrS ops[j]):=by simp [hj]
 have st:=Ba _ _ [] 0 i j _ _ _ _ hS rfl (by omega) (by rw [List.nil_append];exact s1) s2
 rw [Nat.zero_add] at st
 have dy:bitB ((oN ops.toList []).getD j 0) i=true\/(px (wrL fs[i]) (rdL fs[j]++wrL fs[j])=false/\px (wrL fs[j]) (rdL fs[i])=false):=by
  rcases hD with hD | hD
  ·right
   have nil:∀f∈fs,wrL f=[]:=by
    intro f hf
    have:=List.all_eq_true.1 hD f hf
    unfold wrL
    split
    ·split at this
     ·rename_i hw;rw [hw];rfl
     ·simp at this
    ·rfl
   rw [nil _ (List.getElem_mem _),nil _ (List.getElem_mem _)]
   exact ⟨rfl,rfl⟩
  ·have d1:(fs.map fun f=>(rdL f,wrL f))[i]?=some (rdL fs[i],wrL fs[i]):=by simp [hlen,hin]
   have d2:(fs.map fun f=>(rdL f,wrL f))[j]?=some (rdL fs[j],wrL fs[j]):=by simp [hlen,hj]
   have:=Ba _ _ [] 0 i j _ _ _ _ hD rfl (by omega) (by rw [List.nil_append];exact d1) d2
   rwa [Nat.zero_add] at this
 simp only [List.getD_eq_getElem?_getD,List.getElem?_map,List.getElem?_range hin,List.getElem?_range hj,Option.map_some,Option.getD_some,h1,h2,h3,h4]
 generalize ops[i]=oi at *
 generalize ops[j]=oj at *
 generalize fs[i]=fi at *
 generalize fs[j]=fj at *
 by_cases hb:bitB ((oN ops.toList []).getD j 0) i=true
 ·have:=xm ops.size j i hj hj (by rw [<-Jq];exact hb)
  simp [List.contains_iff_mem,this]
 ·obtain ⟨s3,s4⟩:=st.resolve_left hb
  obtain ⟨d3,d4⟩:=dy.resolve_left hb
  rw [Bool.or_eq_true]
  right
  rw [Bool.not_eq_true',Bool.or_eq_false_iff]
  constructor
  ·cases hc:vD ((fpW oi fi).map (·.1)) ((fpR ops oj fj).map (·.1)++(fpW oj fj).map (·.1)) with
   | false=>rfl
   | true=>
    exfalso
    obtain ⟨x,hx,hy⟩:=zK hc
    rcases memW hx with ⟨d,rfl,hd⟩ | ⟨l,rfl,hl⟩
    ·rcases List.mem_append.1 hy with hy | hy
     ·rcases memR rj hy with ⟨d',e,hd'⟩ | ⟨l,e,_⟩
      ·simp at e;subst e;exact no s3 hd (List.mem_append.2 (.inl hd'))
      ·simp at e
     ·rcases memW hy with ⟨d',e,hd'⟩ | ⟨l,e,_⟩
      ·simp at e;subst e;exact no s3 hd (List.mem_append.2 (.inr hd'))
      ·simp at e
    ·rcases List.mem_append.1 hy with hy | hy
     ·rcases memR rj hy with ⟨d',e,hd'⟩ | ⟨l',e,hl'⟩
      ·simp at e
      ·simp at e;subst e;exact no d3 hl (List.mem_append.2 (.inl hl'))
     ·rcases memW hy with ⟨d',e,hd'⟩ | ⟨l',e,hl'⟩
      ·simp at e
      ·simp at e;subst e;exact no d3 hl (List.mem_append.2 (.inr hl'))
  ·cases hc:vD ((fpW oj fj).map (·.1)) ((fpR ops oi fi).map (·.1)) with
   | false=>rfl
   | true=>
    exfalso
    obtain ⟨x,hx,hy⟩:=zK hc
    rcases memW hx with ⟨d,rfl,hd⟩ | ⟨l,rfl,hl⟩
    ·rcases memR ri hy with ⟨d',e,hd'⟩ | ⟨l,e,_⟩
     ·simp at e;subst e;exact no s4 hd hd'
     ·simp at e
    ·rcases memR ri hy with ⟨d',e,hd'⟩ | ⟨l',e,hl'⟩
     ·simp at e
     ·simp at e;subst e;exact no d4 hl hl'
theorem wP:∀(os:List Oper) (fs:List Fp) (o:Oper) (f:Fp) (al:Al),os.length=fs.length->nM (os++[o]) (fs++[f]) al=ms o f (nM os fs al)
 | [],[],o,f,al,_=>rfl
 | [],_::_,o,f,al,h=>by simp at h
 | _::_,[],o,f,al,h=>by simp at h
 | o'::os,f'::fs,o,f,al,h=>wP os fs o f _ (by simpa using h)
theorem y8:∀(os:List Oper) (fs:List Fp) (o:Oper) (f:Fp) (L:Lb),os.length=fs.length->so (os++[o]) (fs++[f]) L=qP f (so os fs L)
 | [],[],o,f,L,_=>rfl
 | [],_::_,o,f,L,h=>by simp at h
 | _::_,[],o,f,L,h=>by simp at h
 | o'::os,f'::fs,o,f,L,h=>y8 os fs o f _ (by simpa using h)
theorem sn (ops:Array Oper):∀(os:List Oper) (fs:List Fp) (o:Oper) (f:Fp) (al:Al) (L:Lb),os.length=fs.length ->
  kp ops (os++[o]) (fs++[f]) al L=kp ops os fs al L++[(fpR ops o f).map fun p=>cx (nM os fs al) (so os fs L) p.1]
 | [],[],o,f,al,L,_=>rfl
 | [],_::_,o,f,al,L,h=>by simp at h
 | _::_,[],o,f,al,L,h=>by simp at h
 | o'::os,f'::fs,o,f,al,L,h=>by
  simp only [List.cons_append,kp,nM,so]
  rw [sn ops os fs o f _ _ (by simpa using h)]
theorem sm (ops:Array Oper):∀(os:List Oper) (fs:List Fp) (o:Oper) (f:Fp),os.length=fs.length->ko ops (os++[o]) (fs++[f])=ko ops os fs++[(fpR ops o f).map (·.2)]
 | [],[],o,f,_=>rfl
 | [],_::_,o,f,h=>by simp at h
 | _::_,[],o,f,h=>by simp at h
 | o'::os,f'::fs,o,f,h=>by
  simp only [List.cons_append,ko]
  rw [sm ops os fs o f (by simpa using h)]
structure DInv (E:Env) (ops:Array Oper) (pre:List Oper) (fs:List Fp) (al0:Al) (L0:Lb) (al:Al) (L:Lb):Prop where
 len:pre.length=fs.length
 hal:al=nM pre fs al0
 hL:L=so pre fs L0
 tv:kp ops pre fs al0 L0=ko ops pre fs
 op:∀(i:Nat) (o:Oper) (f:Fp),pre[i]?=some o->fs[i]?=some f->f.run=true->AOp E o f.ra f.rl f.x f.wl
 gd:∀(i:Nat) (o:Oper) (f:Fp),pre[i]?=some o->fs[i]?=some f->(match o.guard with | some _=>(!f.gd || !f.run) | none=>f.run)=true
 ra:∀(i:Nat) (o:Oper) (f:Fp),pre[i]?=some o->fs[i]?=some f->∀p∈f.ra,p.1∈cW (jz o.op)
theorem mY {α:Type} {xs:List α} {x y:α} {i:Nat} (h:(xs++[x])[i]?=some y):(i<xs.length/\xs[i]?=some y)\/(i=xs.length/\y=x):=by
 rcases Nat.lt_or_ge i xs.length with hi | hi
 ·rw [List.getElem?_append_left hi] at h;exact .inl ⟨hi,h⟩
 ·rw [List.getElem?_append_right hi] at h
  cases hk:i-xs.length with
  | zero=>rw [hk] at h;simp at h;exact .inr ⟨by omega,h.symm⟩
  | succ k=>rw [hk] at h;simp at h
theorem DInv.snoc {E:Env} {ops:Array Oper} {pre:List Oper} {fs:List Fp} {al0 al:Al} {L0 L:Lb} (h:DInv E ops pre fs al0 L0 al L) {o:Oper} {f:Fp}
  (hr:∀p∈fpR ops o f,cx al L p.1=p.2) (hop:f.run=true->AOp E o f.ra f.rl f.x f.wl) (hgd:(match o.guard with | some _=>(!f.gd || !f.run) | none=>f.run)=true) (hra:∀p∈f.ra,p.1∈cW (jz o.op)) :
  DInv E ops (pre++[o]) (fs++[f]) al0 L0 (ms o f al) (qP f L):=by
 refine ⟨by simp [h.len],by rw [wP _ _ _ _ _ h.len,h.hal],by rw [y8 _ _ _ _ _ h.len,h.hL],?_,?_,?_,?_⟩
 ·rw [sn _ _ _ _ _ _ _ h.len,sm _ _ _ _ _ h.len,h.tv,<-h.hal,<-h.hL]
  congr 2
  exact List.map_congr_left hr
 ·intro i o' f' h1 h2 h3
  rcases mY h1 with ⟨a,b⟩ | ⟨a,rfl⟩ <;> rcases mY h2 with ⟨c,d⟩ | ⟨c,rfl⟩
  ·exact h.op i _ _ b d h3
  ·have:=h.len;omega
  ·have:=h.len;omega
  ·exact hop h3
 ·intro i o' f' h1 h2
  rcases mY h1 with ⟨a,b⟩ | ⟨a,rfl⟩ <;> rcases mY h2 with ⟨c,d⟩ | ⟨c,rfl⟩
  ·exact h.gd i _ _ b d
  ·have:=h.len;omega
  ·have:=h.len;omega
  ·exact hgd
 ·intro i o' f' h1 h2
  rcases mY h1 with ⟨a,b⟩ | ⟨a,rfl⟩ <;> rcases mY h2 with ⟨c,d⟩ | ⟨c,rfl⟩
  ·exact h.ra i _ _ b d
  ·have:=h.len;omega
  ·have:=h.len;omega
  ·exact hra
end Go.SH
namespace Go.SH
theorem Weak.subG {E:Env} {K:Nat->Prop} {al al':Al} {L:Lb} (hs:∀t x,lget al' t=some x->lget al t=some x):Weak E K al L al' L:=fun _ w σ _ r=>
 ⟨σ,⟨fun t x hx=>r.tmps t x (hs t x hx),r.blocks,r.globals,r.nodefer⟩,Grow.refl _ _ _ _⟩
theorem HA {E:Env} (hm:E.P.follows .mixedOrders=true) {n id:Nat} {ops:Array Oper} {fs:List Fp} {al0 al:Al} {L0 L:Lb} {K:Nat->Prop} (h:DInv E ops ops.toList fs al0 L0 al L) (he:wx ops=true) (hS:Ay ops=true) (hd:HB n ops=true)
  (hp:pureL fs=true\/(sN fs=true/\Az ops fs=true)):AW E K n (.region id ops true) (fun e1 al1 L1=>e1 = .normal/\al1=al/\L1=L) al0 L0:=by
 have hlen:fs.length=ops.size:=by have:=h.len;simp at this;omega
 have g1:∀(i:Nat) (o:Oper),ops[i]?=some o->ops.toList[i]?=some o:=fun i o h=>by simpa using h
 have hst:∀(i:Nat) (o:Oper),ops[i]?=some o->(kJ n o.dst&&(match o.guard with | some _=>(pE ops o).isSome | none=>true))=true:=fun i o ho=>
  List.all_eq_true.1 ((Bool.and_eq_true _ _).mp hd).1 o (List.mem_of_getElem? (g1 i o ho))
 refine qA (JG (Q:=fun e al1 L1=>e = .normal/\(∀t,lget al1 t=lget al t)/\∀l,lget L1 l=lget L l) hm fs hlen (fun i o f ho hf hr=>h.op i o f (g1 i o ho) hf hr) (fun i o f ho hf=>⟨?_,?_,?_⟩) he
  (Hj hlen hS (hp.imp (fun h=>h) (·.2)) fun i o f ho hf=>h.ra i o f (g1 i o ho) hf) h.tv (fun al1 L1 e1 e2=>⟨rfl,fun t=>by rw [e1,<-h.hal],fun l=>by rw [e2,<-h.hL]⟩) (fun i o ho=>List.all_eq_true.1 ((Bool.and_eq_true _ _).mp hd).2 o (List.mem_of_getElem? (g1 i o ho))) (fun _ _ h=>by simp at h)) ?_
 ·have h1:=h.gd i o f (g1 i o ho) hf
  have h2:=hst i o ho
  unfold AA
  cases hg:o.guard with
  | none=>rw [hg] at h1;exact h1
  | some q=>rw [hg] at h1 h2;simp only [Bool.and_eq_true] at h2 ⊢;exact ⟨h2.2,h1⟩
 ·rcases hp with hp | hp
  ·have:=List.all_eq_true.1 hp f (List.mem_of_getElem? hf)
   split at this
   ·rename_i hw;rw [hw];rfl
   ·simp at this
  ·exact List.all_eq_true.1 hp.1 f (List.mem_of_getElem? hf)
 ·intro t ht
  have h2:=hst i o ho
  simp only [Bool.and_eq_true] at h2
  exact iE h2.1 t ht
 ·rintro e al1 L1 ⟨rfl,e1,e2⟩
  exact ⟨al,L,(Weak.subG fun t x hx=>by rw [e1];exact hx).trans (Weak.eqL fun l=>(e2 l).symm),rfl,rfl,rfl⟩
def TrB (m:Tr) (nx:Nat):Prop:=∀l,tget m l≠none->l<nx
structure StOK (m:Tr) (nx lo:Nat) (m':Tr) (nx':Nat):Prop where
 le:nx<=nx'
 mx:nx'<=maxL
 trb:TrB m' nx'
 low:∀l,l<lo->tget m' l=tget m l
 dom:∀l,l<nx->tget m l=none->tget m' l=none
theorem rf {ops:Array Oper} {al:Al} {o:Oper} {run:Bool} (h:ge ops al o=some run):(∀d,pE ops o=some d->lget al d=some (gval o run (gdOf ops al o)))/\(run=true->gdOf ops al o=false)/\(o.guard=none->run=true):=by
 unfold ge at h
 unfold pE gval gdOf
 cases hg:o.guard with
 | none=>rw [hg] at h;simp at h;simp [h]
 | some q=>
  obtain ⟨j,want⟩:=q
  rw [hg] at h
  simp only at h ⊢
  have hh:(ops[j]?).bind (·.dst)=none\/∃d,(ops[j]?).bind (·.dst)=some d:=by cases (ops[j]?).bind (·.dst) <;> simp
  rcases hh with hd | ⟨d,hd⟩
  ·simp [hd] at h
  ·have hx':lget al d=none\/∃x,lget al d=some x:=by cases lget al d <;> simp
   rcases hx' with hx | ⟨x,hx⟩
   ·simp [hd,hx] at h
   ·simp only [hd,hx] at h ⊢
    cases x <;> simp at h
    ·subst h
     refine ⟨fun d' hd'=>?_,by simp,by simp⟩
     simp at hd';subst hd'
     rw [hx];simp
    ·rename_i b
     subst h
     refine ⟨fun d' hd'=>?_,by simp,by simp⟩
     simp at hd';subst hd'
     rw [hx];cases b <;> cases want <;> rfl
theorem Ho {ops:Array Oper} {al:Al} {L:Lb} {o:Oper} {f:Fp} (hw:ge ops al o=some f.run) (hgd:f.gd=gdOf ops al o) (hra:∀p∈f.ra,lget al p.1=some p.2) (hrl:∀p∈f.rl,lget L p.1=some p.2)
  (hnew:∀l∈fnew f,lget L l=none):∀p∈fpR ops o f,cx al L p.1=p.2:=by
 intro p hp
 unfold fpR at hp
 rw [List.mem_append] at hp
 rcases hp with hp | hp
 ·cases hd:pE ops o with
  | none=>rw [hd] at hp;simp at hp
  | some d=>
   rw [hd] at hp
   simp at hp;subst hp
   simp only [cx]
   rw [(rf hw).1 d hd,hgd]
 ·split at hp
  ·rw [List.mem_append,List.mem_append] at hp
   rcases hp with (hp | hp) | hp
   ·simp only [List.mem_map] at hp
    obtain ⟨q,hq,rfl⟩:=hp
    simp only [cx];rw [hra q hq]
   ·simp only [List.mem_map] at hp
    obtain ⟨q,hq,rfl⟩:=hp
    simp only [cx];rw [hrl q hq]
   ·simp only [List.mem_map] at hp
    obtain ⟨l,hl,rfl⟩:=hp
    simp only [cx];rw [hnew l hl]
  ·simp at hp
end Go.SH
namespace Go.SH
variable [SentA]
mutual
def DV.names:DV->List Nat
 | .ptr l _=>[l]
 | .lp l _ _ _=>[l]
 | .rw l _ _ _ _ _=>[l]
 | .fn _ cs=>DV.namesL cs
 | .iface _ v=>v.names
 | .agg cs=>DV.namesL cs
 | .tup cs=>DV.namesL cs
 | _=>[]
def DV.namesL:List DV->List Nat
 | []=>[]
 | d::r=>d.names++DV.namesL r
end
def oP (al:DAl):List Nat->DAl
 | []=>[]
 | t::r=>match lget al t with | some x=>(t,x)::oP al r | none=>oP al r
def zG (L:DLb):List Nat->DLb
 | []=>[]
 | l::r=>match lget L l with | some c=>(l,c)::zG L r | none=>zG L r
theorem nC {al:DAl}:∀{ts:List Nat} {p:Nat×DV},p∈oP al ts->lget al p.1=some p.2/\p.1∈ts
 | [],p,h=>by simp [oP] at h
 | t::r,p,h=>by
  simp only [oP] at h
  split at h
  ·rename_i x hx
   rcases List.mem_cons.1 h with rfl | h
   ·exact ⟨hx,by simp⟩
   ·obtain ⟨h1,h2⟩:=nC h;exact ⟨h1,List.mem_cons_of_mem _ h2⟩
  ·obtain ⟨h1,h2⟩:=nC h;exact ⟨h1,List.mem_cons_of_mem _ h2⟩
theorem uM {L:DLb}:∀{ts:List Nat} {p:Nat×DC},p∈zG L ts->lget L p.1=some p.2
 | [],p,h=>by simp [zG] at h
 | t::r,p,h=>by
  simp only [zG] at h
  split at h
  ·rename_i x hx
   rcases List.mem_cons.1 h with rfl | h
   ·exact hx
   ·exact uM h
  ·exact uM h
def LP:Op->Bool
 | .move _=>false
 | .assign _=>false
 | .pick _ _ _=>false
 | .binOp _ _ _ _ _=>false
 | .unOp _ _ _=>false
 | .fieldAddr _ _ _=>false
 | .field _ _ _=>false
 | .extract _ _=>false
 | .makeFunc _ _ _=>false
 | .makeInterface _ _=>false
 | .nilCheck _=>false
 | .build _ _=>false
 | .box _ _=>false
 | .buildSlice _ _ _=>false
 | _=>true
def deep (L:DLb) (op:Op) (ns:List Nat):List Nat:=match op with
 | .call ⟨.value _,_,_⟩=>flab::de::(ns++ns.flatMap fun l=>match lget L l with
  | some (.cs ds)=>DV.namesL ds
  | _=>[])
 | _=>ns
def w6 (op:Op) (ra:DAl) (L:DLb):DLb:=match LP op with
 | true=>zG L (deep L op (ra.flatMap fun p=>p.2.names))
 | false=>[]
theorem ze {op:Op} {ra:DAl} {L:DLb} {p:Nat×DC} (h:p∈w6 op ra L):lget L p.1=some p.2:=by
 unfold w6 at h
 split at h
 ·exact uM h
 ·simp at h
theorem zy {f:Fp} {l:Nat} (h:l∈fnew f):lget f.rl l=none/\∃p∈f.wl,p.1=l:=by
 unfold fnew at h
 simp only [List.mem_map,List.mem_filter] at h
 obtain ⟨p,⟨h1,h2⟩,rfl⟩:=h
 exact ⟨by simpa using h2,p,h1,rfl⟩
section
variable {E:Env} {K:Nat->Prop} {n:Nat} {Q:Exit->Al->Lb->Prop} {ops:Array Oper} {rest:List Oper} {R:Type} {r:R}
def zJ (E:Env) (G:GTab) (C:CT E) (n:Nat) (hs:OHs) (ops:Array Oper) {R:Type}:List Oper->Nat->List Fp->St->(St->Option R)->Option R
 | [],_,fs,s,k=>if (wx ops&&(Ay ops&&HB n ops)&&(pureL fs||(sN fs&&Az ops fs.reverse)))=true then k s else none
 | o::rest,i,fs,s,k=>match uK ops s.al o with
  | some true=>let ra:=oP s.al (cW (jz o.op))
   let rl:=w6 o.op ra s.L
   dOpF E G C (ohOf hs i) o ra rl (frOf s.L) fun x wl dl=>
    if (wl.all fun p=>(rl.map (·.1)).elem p.1||Nat.ble (frOf s.L) p.1)=true then Ah (ohOf hs i).split x fun x=>
     zJ E G C n hs ops rest (i+1) (⟨dal ra,dlb rl,x.pv,dlb wl,true,false⟩::fs) ((s.wr wl dl).set o.dst x) k else none
  | some false=>zJ E G C n hs ops rest (i+1) (⟨[],[],.dead,[],false,gdOf ops (dal s.al) o⟩::fs) (s.set o.dst .dead) k
  | none=>none
theorem yb {G:GTab} {C:CT E} {hs:OHs} {id:Nat} (hm:E.P.follows .mixedOrders=true) (hG:E.G=gtPV G) (hE:GOK E) {al0:Al} {L0:Lb} :
  ∀{rest pre:List Oper} {i:Nat} {fs:List Fp} {s:St} {k:St->Option R},ops.toList=pre++rest->DInv E ops pre fs.reverse al0 L0 (dal s.al) (dlb s.L)->zJ E G C n hs ops rest i fs s k=some r->s.ok ->
  (∀s',Up s s'->s'.ok->k s'=some r->Q .normal (dal s'.al) (dlb s'.L))->AW E K n (.region id ops true) Q al0 L0
 | [],pre,i,fs,s,k,hpre,hD,h,ho,hq=>by
  simp only [zJ] at h
  split at h
  ·rename_i hc
   simp only [Bool.and_eq_true] at hc
   obtain ⟨⟨h1,h2,h3⟩,h4⟩:=hc
   rw [List.append_nil] at hpre
   subst hpre
   refine (HA hm hD h1 h2 h3 ?_).mono fun e1 al1 L1 ⟨a,b,c⟩=>by subst a;subst b;subst c;exact hq s (.refl s) ho h
   simp only [Bool.or_eq_true,Bool.and_eq_true] at h4
   rcases h4 with hp | ⟨hp,hq⟩
   ·left;unfold pureL at hp ⊢;rw [List.all_reverse];exact hp
   ·right;exact ⟨by unfold sN at hp ⊢;rw [List.all_reverse];exact hp,hq⟩
  ·simp at h
 | o::rest,pre,i,fs,s,k,hpre,hD,h,ho,hq=>by
  simp only [zJ] at h
  split at h
  ·rename_i hw
   have hw:=jh hw
   have hra:alOk (oP s.al (cW (jz o.op))):=fun t x hx=>ho.1 t x (nC (ai hx)).1
   have hrlm:∀l c,lget (w6 o.op (oP s.al (cW (jz o.op))) s.L) l=some c->lget s.L l=some c:=fun l c hl=>ze (ai hl)
   have hn:lget (w6 o.op (oP s.al (cW (jz o.op))) s.L) (frOf s.L)=none:=by
    cases hc:lget (w6 o.op (oP s.al (cW (jz o.op))) s.L) (frOf s.L) with
    | none=>rfl
    | some c=>have:=hrlm _ _ hc;rw [wt (Nat.le_refl _)] at this;simp at this
   obtain ⟨x,wl,dl,hA,hx,hwl,hd,h⟩:=Jh hG hE hra (fun l c hl=>ho.2 l c (hrlm l c hl)) hn h
   simp only at h
   split at h
   ·rename_i hwc
    have h:=za h
    have hd':lu s.L wl dl:=fun p hp=>(hd p hp).imp (fun h=>h) fun ⟨cs,cs',e1,e2⟩=>⟨cs,cs',hrlm _ _ e1,e2⟩
    have u2:Up s ((s.wr wl dl).set o.dst x):=(u9 hd').trans (mt _ _ _)
    have o2:((s.wr wl dl).set o.dst x).ok:=mu (va ho hwl) hx
    have hgd:gdOf ops (dal s.al) o=false:=(rf hw).2.1 rfl
    have hD':=hD.snoc (o:=o) (f:=⟨dal (oP s.al (cW (jz o.op))),dlb (w6 o.op (oP s.al (cW (jz o.op))) s.L),x.pv,dlb wl,true,false⟩)
     (Ho hw hgd.symm (fun p hp=>by
       obtain ⟨q,hq,rfl⟩:=List.mem_map.1 hp
       rw [aZ,(nC hq).1];rfl)
      (fun p hp=>by
       obtain ⟨q,hq,rfl⟩:=List.mem_map.1 hp
       rw [an,ze hq];rfl) fun l hl=>by
      obtain ⟨e1,p,hp,rfl⟩:=zy hl
      obtain ⟨q,hq,rfl⟩:=List.mem_map.1 hp
      have:=List.all_eq_true.1 hwc q hq
      simp only [Bool.or_eq_true] at this
      rcases this with this | this
      ·have e2:=xD this
       simp only [hasL] at e2
       simp only at e1
       rw [e1] at e2;simp at e2
      ·have:=Nat.le_of_ble_eq_true this
       simp only;rw [an,wt this];rfl)
     (fun _=>hA) (by cases hg:o.guard <;> rfl) fun p hp=>by
      obtain ⟨q,hq,rfl⟩:=List.mem_map.1 hp
      exact (nC hq).2
    refine yb hm hG hE (pre:=pre++[o]) (by rw [hpre];simp) ?_ h o2 fun s' u' o' k'=>hq s' (u2.trans u') o' k'
    rw [List.reverse_cons,ox,ov,show (s.wr wl dl).L=lupd s.L wl from rfl,<-py]
    exact hD'
   ·simp at h
  ·rename_i hw
   have hw:=jh hw
   have hg:o.guard≠none:=fun h=>by have:=(rf hw).2.2 h;simp at this
   have hD':=hD.snoc (o:=o) (f:=⟨[],[],.dead,[],false,gdOf ops (dal s.al) o⟩)
    (Ho hw rfl (fun p hp=>by simp at hp) (fun p hp=>by simp at hp) fun l hl=>by obtain ⟨_,p,hp,_⟩:=zy hl;simp at hp)
    (fun h=>by simp at h) (by cases hgg:o.guard with | none=>exact absurd hgg hg | some q=>simp) fun p hp=>by simp at hp
   refine yb hm hG hE (pre:=pre++[o]) (by rw [hpre];simp) ?_ h (mu ho (d:=o.dst) (x:=.dead) trivial) fun s' u' o' k'=>hq s' ((mt _ _ _).trans u') o' k'
   rw [List.reverse_cons,ox,ov]
   exact hD'
  ·simp at h
end
end Go.SH
namespace Go.SH
variable [SentA]
section
variable {R:Type} {r:R}
def Tm.leafK (tm:Tm) (ks:List Nat) (b s:St) (k:tm.T->Option R):Option R:=
 match getS (frOf s.L) s.al tm.slots ⟨[],[],[]⟩ with
 | some g=>match getL (frOf s.L) s.L tm.labs (uv (frOf s.L) s.L tm.cups g) with
  | some g=>match getC (frOf s.L) s.L tm.cups g with
   | some g=>
    let s':=tm.appL g.vs b
    if AL tm b s=true/\(ded (tm.slots.map (·.1)++tm.kill) b.al).all (fun p=>p.2.labs (idOK g.m s'.L))=true /\
      (ded (tm.labs.map (·.1)) b.L).all (fun p=>idOK g.m s'.L p.1&&DM (idOK g.m s'.L) p.2)=true/\tm.cups.all (fun c=>idOK g.m s'.L c.1 && !tm.killL.elem c.1 && !(tm.labs.map (·.1)).elem c.1)=true /\
      (g.m.all fun p=>(s'.L.map (·.1)).elem p.1)=true/\ks.all (fun l=>idOK g.m s'.L l)=true /\
      (s'.L.all fun p=>s'.L.all fun q=>vw p.2||vw q.2||decide (lk g.m p.1=lk g.m q.1->p.1=q.1))=true/\rD g.m=true then
     reqs (lenF (lenT tm.labs (g.vs.drop (nS tm.slots))) b.L) g.q (match pack tm.hs g.vs with
      | some v=>k v
      | none=>none) else none
   | none=>none
  | none=>none
 | none=>none
theorem Eu {len:Nat->Nat} {k:Option R}:∀{q:List (Nat×Nat)},(∀p∈q,p.2=len p.1)->reqs len q k=k
 | [],_=>rfl
 | (l,n)::q,h=>by
  simp only [reqs]
  rw [ae (h (l,n) (by simp)),Eu fun p hp=>h p (List.mem_cons_of_mem _ hp)]
theorem iy {tm:Tm} {ks:List Nat} {b s:St} {k:tm.T->Option R} (h:tm.leafK ks b s k=some r):∃v,tm.leaf ks b s=some v/\k v=some r:=by
 unfold Tm.leafK at h
 unfold Tm.leaf
 split at h
 ·rename_i g1 h1
  rw [h1];simp only
  split at h
  ·rename_i g2 h2
   rw [h2];simp only
   split at h
   ·rename_i g3 h3
    rw [h3];simp only at h ⊢
    split at h
    ·rename_i hc
     rw [if_pos hc]
     obtain ⟨hq,h⟩:=wh h
     rw [Eu hq]
     split at h
     ·rename_i v hv;exact ⟨v,hv,h⟩
     ·simp at h
    ·simp at h
   ·simp at h
  ·simp at h
 ·simp at h
def exB:Exit->Exit->Bool
 | .ret,.ret=>true
 | .exit i,.exit j=>Nat.beq i j
 | _,_=>false
theorem Dz {e e':Exit} (h:exB e e'=true):e=e'/\e ≠ .normal:=by
 unfold exB at h
 split at h
 ·exact ⟨rfl,by simp⟩
 ·have:=Nat.eq_of_beq_eq_true h;subst this;exact ⟨rfl,by simp⟩
 ·simp at h
@[reducible] def xty:List (Exit×Tm)->Type
 | []=>Empty
 | [x]=>x.2.T
 | x::y::r=>x.2.T⊕xty (y::r)
def ue (ks:List Nat) (b:St) (e:Exit) (s:St):(xs:List (Exit×Tm))->(xty xs->Option R)->Option R
 | [],_=>none
 | [x],k=>if exB e x.1=true then x.2.leafK ks b s k else none
 | x::y::r,k=>if exB e x.1=true then x.2.leafK ks b s fun v=>k (.inl v) else ue ks b e s (y::r) fun v=>k (.inr v)
def Eg (s:St) (kx:Exit->St->Option R):(xs:List (Exit×Tm))->xty xs->Option R
 | [],v=>nomatch v
 | [x],v=>kx x.1 (x.2.app v s)
 | x::y::r,v=>match v with
  | .inl v=>kx x.1 (x.2.app v s)
  | .inr v=>Eg s kx (y::r) v
inductive Hint where
 | leaf
 | seq (a b:Hint)
 | join (t:Tm) (a b:Hint)
 | joinX (t:Tm) (a b:Hint)
 | cond (a b:Hint)
 | blk (a:Hint)
 | loop (t:Tm) (xs:List (Exit×Tm)) (a:Hint)
 | reg (hs:OHs)
 | lab (l:Nat) (a b:Hint)
def Hint.one:Hint->Hint
 | .seq a _=>a
 | .cond a _=>a
 | .blk a=>a
 | _=>.leaf
def Hint.two:Hint->Hint
 | .seq _ b=>b
 | .cond _ b=>b
 | _=>.leaf
def Hint.hs:Hint->OHs
 | .reg hs=>hs
 | _=>[]
end
def swK {R:Type} (kf sw:Bool) (s:St) (k:St->Option R):Option R:=match sw with
 | true=>match kf with
  | true=>s.swF k
  | false=>none
 | false=>k s
theorem Kk {E:Env} {K:Nat->Prop} {R:Type} {r:R} {kf sw:Bool} {s:St} {k:St->Option R} (hkf:kf=true->¬K de) (hG:GOK E) (h:swK kf sw s k=some r) (hs:s.ok) :
  ∃s',Up s s'/\s'.ok/\k s'=some r/\Weak E K (dal s.al) (dlb s.L) (dal s'.al) (dlb s'.L):=by
 unfold swK at h
 split at h
 ·split at h
  ·exact Kl (hkf rfl) hG h hs
  ·simp at h
 ·exact ⟨s,.refl s,hs,h,.refl⟩
def Hint.at:Hint->Nat->Hint
 | .lab l a b,k=>match Nat.beq l k with
  | true=>a
  | false=>b.at k
 | _,_=>.leaf
abbrev RunJ:=Code->Hint->(R:Type)->List Nat->St->(St->Option R)->(Exit->St->Option R)->Option R
def jR (J:RunJ) (body:Code) (h:Hint) {R:Type} (ks:List Nat) (kn:St->Option R) (kx:Exit->St->Option R):Nat->Exit->St->Option R
 | 0,e,s=>match e with
  | .goto _=>none
  | e=>kx e s
 | m+1,e,s=>match e with
  | .goto l=>match findLabel body l with
   | some rest=>J rest (h.at l) R ks s kn (jR J body h ks kn kx m)
   | none=>none
  | e=>kx e s
def DJ (J:RunJ) (E:Env) (G:GTab) (C:CT E) (n:Nat):Code->Hint->(R:Type)->List Nat->St->(St->Option R)->(Exit->St->Option R)->Option R
 | .skip,_,_,_,s,kn,_=>kn s
 | .label _,_,_,_,s,kn,_=>kn s
 | .exit i,_,_,_,s,_,kx=>kx (.exit i) s
 | .goto i,_,_,_,s,_,kx=>kx (.goto i) s
 | .ret,_,_,_,s,_,kx=>kx .ret s
 | .seq x y,h,R,ks,s,kn,kx=>match h with
  | .join tm a b=>(DJ J E G C n x a tm.T ks s.clean (fun s'=>tm.leafK ks s.clean s' some) (fun _ _=>none)).bind fun v=>DJ J E G C n y b R ks (tm.app v s) kn kx
  | .joinX tm a b=>(DJ J E G C n x a (tm.T⊕R) ks s.clean (fun s'=>tm.leafK ks s.clean s' fun v=>some (.inl v)) (fun e s'=>Option.map Sum.inr (kx e { s' with ds:=s'.ds++s.ds,dl:=s'.dl++s.dl }))).bind fun o=>match o with
   | .inl v=>DJ J E G C n y b R ks (tm.app v s) kn kx
   | .inr v=>some v
  | h=>DJ J E G C n x h.one R ks s (fun s'=>DJ J E G C n y h.two R ks s' kn kx) kx
 | .cond c x y,h,R,ks,s,kn,kx=>match c with
  | .tmp t=>match lget s.al t with
   | some (.bool b)=>cond b (DJ J E G C n x h.one R ks s kn kx) (DJ J E G C n y h.two R ks s kn kx)
   | _=>none
  | .const (.bool b)=>cond b (DJ J E G C n x h.one R ks s kn kx) (DJ J E G C n y h.two R ks s kn kx)
  | _=>none
 | .block i c,h,R,ks,s,kn,kx=>DJ J E G C n c h.one R ks s kn fun e s'=>if exB e (.exit i)=true then kn s' else kx e s'
 | .scope c,h,R,ks,s,kn,kx=>DJ J E G C n c h.one R ks s kn (jR J c h.two ks kn kx 4)
 | .loop c,h,R,ks,s,kn,kx=>match h with
  | .loop tm xs a=>if tm.kOK=true then tm.leafK ks s.clean s.clean fun v0=>
   (aH (fun v:tm.T=>DJ J E G C n c a (xty xs⊕tm.T) ks (tm.app v s.clean) (fun s'=>tm.leafK ks s.clean s' fun w=>some (.inr w)) (fun e s'=>ue ks s.clean e s' xs fun w=>some (.inl w))) v0).bind fun o=>Eg s kx xs o else none
  | _=>none
 | .region _ ops dr,h,_,ks,s,kn,_=>swK (!ks.elem de) (ohOf h.hs 9999).sw s fun s=>match dr with
  | false=>dOps E G C n (!ks.elem de) h.hs ops ops.toList 0 s kn
  | true=>zJ E G C n h.hs ops ops.toList 0 [] s kn
 | .rangeFunc g ps a b,h,R,ks,s,kn,kx=>J (.rangeFunc g ps a b) h R ks s kn kx
 | _,_,_,_,_,_,_=>none
def noJ:RunJ:=fun _ _ _ _ _ _ _=>none
abbrev D (E:Env) (G:GTab) (C:CT E) (n:Nat):Code->Hint->(R:Type)->List Nat->St->(St->Option R)->(Exit->St->Option R)->Option R:=DJ (DJ noJ E G C n) E G C n
theorem Ext.trans' {b s s':St} (h:Ext b s) (h':Ext s.clean s'):Ext b { s' with ds:=s'.ds++s.ds,dl:=s'.dl++s.dl }:=by
 refine ⟨fun t ht=>?_,fun l hl=>?_,fun l cs0 hl h0=>?_⟩
 ·simp only [List.mem_append,not_or] at ht
  exact (h'.sl t ht.1).trans (h.sl t ht.2)
 ·simp only [List.mem_append,not_or] at hl
  exact (h'.lb l fun i=>(hl i).1).trans (h.lb l fun i=>(hl i).2)
 ·simp only [List.mem_append,not_or] at hl ⊢
  obtain ⟨cs,c1,c2,c3⟩:=h.ce l cs0 hl.2 h0
  obtain ⟨cs',d1,d2,d3⟩:=h'.ce l cs hl.1 c1
  exact ⟨cs',d1,d2.trans c2,fun i hi=>(d3 i hi.1).trans (c3 i hi.2)⟩
theorem jJ {s:St} (h:s.ok):s.clean.ok:=h
section
variable {E:Env} {K:Nat->Prop} {n:Nat} {G:GTab} {C:CT E}
theorem yY {ks:List Nat} {b:St} {e:Exit} {s:St} {R:Type} {r:R} (he:Ext b s) (hs:s.ok) (hb:b.ok) (hK:∀l,K l->l∈ks) (hE:GOK E):∀{xs:List (Exit×Tm)} {k:xty xs->Option R},ue ks b e s xs k=some r ->
  ∃v:xty xs,k v=some r/\∃x∈xs,∃w:x.2.T,e=x.1/\e ≠ .normal/\Weak E K (dal s.al) (dlb s.L) (dal (x.2.app w b).al) (dlb (x.2.app w b).L)/\(x.2.app w b).ok/\∀(s0:St) {R':Type} (kx:Exit->St->Option R'),Eg s0 kx xs v=kx x.1 (x.2.app w s0)
 | [],k,h=>by simp [ue] at h
 | [x],k,h=>by
  simp only [ue] at h
  split at h
  ·rename_i hx
   obtain ⟨rfl,hne⟩:=Dz hx
   obtain ⟨v,hv,h⟩:=iy h
   obtain ⟨hw,ho⟩:=j7 hv he hs hb hK hE
   exact ⟨v,h,x,by simp,v,rfl,hne,hw,ho,fun _ _ _=>rfl⟩
  ·simp at h
 | x::y::rr,k,h=>by
  simp only [ue] at h
  split at h
  ·rename_i hx
   obtain ⟨rfl,hne⟩:=Dz hx
   obtain ⟨v,hv,h⟩:=iy h
   obtain ⟨hw,ho⟩:=j7 hv he hs hb hK hE
   exact ⟨.inl v,h,x,by simp,v,rfl,hne,hw,ho,fun _ _ _=>rfl⟩
  ·obtain ⟨v,h,z,hz,w,e1,e2,e3,e4,e5⟩:=yY he hs hb hK hE h
   exact ⟨.inr v,h,z,List.mem_cons_of_mem _ hz,w,e1,e2,e3,e4,fun s0 _ kx=>e5 s0 kx⟩
def JOK1 (E:Env) (K:Nat->Prop) (n:Nat) (ks:List Nat) (J:RunJ) (c:Code):Prop:=∀{h:Hint} {R:Type} {s:St} {kn:St->Option R} {kx:Exit->St->Option R} {r:R} {Q:Exit->Al->Lb->Prop},
  J c h R ks s kn kx=some r->s.ok->(∀s',Up s s'->s'.ok->kn s'=some r->Q .normal (dal s'.al) (dlb s'.L))->(∀e s',e ≠ .normal->Up s s'->s'.ok->kx e s'=some r->Q e (dal s'.al) (dlb s'.L)) ->
  AW E K n c Q (dal s.al) (dlb s.L)
def Cov (JS:Code->Prop):Code->Prop
 | .seq a b=>Cov JS a/\Cov JS b
 | .cond _ a b=>Cov JS a/\Cov JS b
 | .block _ c=>Cov JS c
 | .loop c=>Cov JS c
 | .scope c=>Cov JS c/\∀l rest,findLabel c l=some rest->JS rest
 | .rangeFunc g ps a b=>JS (.rangeFunc g ps a b)
 | _=>True
theorem Cov.all {JS:Code->Prop} (h:∀c,JS c):∀c,Cov JS c:=by
 intro c
 induction c with
 | seq a b iha ihb=>exact ⟨iha,ihb⟩
 | cond _ a b iha ihb=>exact ⟨iha,ihb⟩
 | block _ c ih=>exact ih
 | loop c ih=>exact ih
 | scope c ih=>exact ⟨ih,fun _ _ _=>h _⟩
 | rangeFunc g ps a b=>exact h _
 | _=>trivial
def fM:Code->Option (List Code)
 | .seq a b=>match fM a,fM b with
  | some x,some y=>some (x++y)
  | _,_=>none
 | .cond _ a b=>match fM a,fM b with
  | some x,some y=>some (x++y)
  | _,_=>none
 | .block _ c=>fM c
 | .loop c=>fM c
 | .scope _=>none
 | .rangeFunc g ps a b=>some [.rangeFunc g ps a b]
 | _=>some []
theorem Cov.of {JS:Code->Prop}:∀{c:Code} {l:List Code},fM c=some l->(∀x∈l,JS x)->Cov JS c:=by
 intro c
 induction c with
 | seq a b iha ihb=>
  intro l h hl
  simp only [fM] at h
  split at h
  ·rename_i x y hx hy
   simp at h;subst h
   exact ⟨iha hx fun z hz=>hl z (List.mem_append_left _ hz),ihb hy fun z hz=>hl z (List.mem_append_right _ hz)⟩
  ·simp at h
 | cond _ a b iha ihb=>
  intro l h hl
  simp only [fM] at h
  split at h
  ·rename_i x y hx hy
   simp at h;subst h
   exact ⟨iha hx fun z hz=>hl z (List.mem_append_left _ hz),ihb hy fun z hz=>hl z (List.mem_append_right _ hz)⟩
  ·simp at h
 | block _ c ih=>exact fun h hl=>ih h hl
 | loop c ih=>exact fun h hl=>ih h hl
 | scope c ih=>intro l h;simp [fM] at h
 | rangeFunc g ps a b=>intro l h hl;simp [fM] at h;subst h;exact hl _ (by simp)
 | _=>intros;trivial
theorem Ku {ks:List Nat} (c:Code):JOK1 E K n ks noJ c:=fun {h R s kn kx r Q} hr=>by simp [noJ] at hr
theorem Fo {J:RunJ} {ks:List Nat} {body:Code} (hJ:∀l rest,findLabel body l=some rest->JOK1 E K n ks J rest) {h:Hint} {R:Type} {kn:St->Option R} {kx:Exit->St->Option R} {r:R} {Q:Exit->Al->Lb->Prop} {s0:St}
  (hn:∀s',Up s0 s'->s'.ok->kn s'=some r->Q .normal (dal s'.al) (dlb s'.L)) (hx:∀e s',e ≠ .normal->Up s0 s'->s'.ok->kx e s'=some r->Q e (dal s'.al) (dlb s'.L)) :
  ∀(m:Nat) (e:Exit) (s:St),e ≠ .normal->Up s0 s->s.ok->jR J body h ks kn kx m e s=some r->Aj E K n body Q e (dal s.al) (dlb s.L):=by
 intro m
 induction m with
 | zero=>
  intro e s hne hu hok hs
  cases e with
  | goto l=>simp [jR] at hs
  | normal=>exact absurd rfl hne
  | exit l=>exact hx _ s hne hu hok (by simpa [jR] using hs)
  | ret=>exact hx _ s hne hu hok (by simpa [jR] using hs)
  | panic c=>exact hx _ s hne hu hok (by simpa [jR] using hs)
  | outgrown=>exact hx _ s hne hu hok (by simpa [jR] using hs)
 | succ m ih=>
  intro e s hne hu hok hs
  cases e with
  | goto l=>
   simp only [jR] at hs
   simp only [Aj]
   split at hs
   ·rename_i rest hf
    rw [hf]
    refine CO (hJ l rest hf hs hok (fun s' hu' hok' hk=>?_) fun e s' hne hu' hok' hk=>?_)
    ·exact hn s' (hu.trans hu') hok' hk
    ·exact ih e s' hne (hu.trans hu') hok' hk
   ·simp at hs
  | normal=>exact absurd rfl hne
  | exit l=>exact hx _ s hne hu hok (by simpa [jR] using hs)
  | ret=>exact hx _ s hne hu hok (by simpa [jR] using hs)
  | panic c=>exact hx _ s hne hu hok (by simpa [jR] using hs)
  | outgrown=>exact hx _ s hne hu hok (by simpa [jR] using hs)
theorem Ib {J:RunJ} (hm:E.P.follows .mixedOrders=true) (hG:E.G=gtPV G) (hE:GOK E) {ks:List Nat} (hK:∀l,K l->l∈ks) {JS:Code->Prop} (hJ:∀c,JS c->JOK1 E K n ks J c):∀(c:Code),Cov JS c->∀{h:Hint} {R:Type} {s:St} {kn:St->Option R} {kx:Exit->St->Option R} {r:R} {Q:Exit->Al->Lb->Prop},
  DJ J E G C n c h R ks s kn kx=some r->s.ok->(∀s',Up s s'->s'.ok->kn s'=some r->Q .normal (dal s'.al) (dlb s'.L))->(∀e s',e ≠ .normal->Up s s'->s'.ok->kx e s'=some r->Q e (dal s'.al) (dlb s'.L)) ->
  AW E K n c Q (dal s.al) (dlb s.L):=by
 intro c
 induction c with
 | skip=>intro hcov h R s kn kx r Q hr ho hn hx;exact qz (hn s (.refl s) ho hr)
 | label l=>intro hcov h R s kn kx r Q hr ho hn hx;exact Il (hn s (.refl s) ho hr)
 | exit i=>intro hcov h R s kn kx r Q hr ho hn hx;exact wD (hx _ s (by simp) (.refl s) ho hr)
 | goto i=>intro hcov h R s kn kx r Q hr ho hn hx;exact JF (hx _ s (by simp) (.refl s) ho hr)
 | ret=>intro hcov h R s kn kx r Q hr ho hn hx;exact yp (hx _ s (by simp) (.refl s) ho hr)
 | region id ops dr=>
  intro hcov h R s kn kx r Q hr ho hn hx
  simp only [DJ] at hr
  have hkf:(!ks.elem de)=true->¬K de:=fun h1 h2=>by
   have:=hK _ h2
   simp at h1
   exact h1 this
  obtain ⟨s1,u1,o1,hr,w1⟩:=Kk (E:=E) hkf hE hr ho
  refine cY w1 ?_
  cases dr with
  | false=>exact nJ (qv hkf hG hE hr o1 fun s' u=>hn s' (u1.trans u))
  | true=>exact yb hm hG hE (pre:=[]) rfl ⟨rfl,rfl,rfl,rfl,by simp,by simp,by simp⟩ hr o1 fun s' u=>hn s' (u1.trans u)
 | cond c x y ihx ihy=>
  intro hcov h R s kn kx r Q hr ho hn hx
  simp only [DJ] at hr
  split at hr
  ·rename_i t
   split at hr
   ·rename_i b hb
    refine tX (b:=b) (by rw [aZ,hb];rfl) (fun e=>?_) fun e=>?_
    ·subst e;exact ihx hcov.1 hr ho hn hx
    ·subst e;exact ihy hcov.2 hr ho hn hx
   ·simp at hr
  ·rename_i b
   refine yS (fun e=>?_) fun e=>?_
   ·subst e;exact ihx hcov.1 hr ho hn hx
   ·subst e;exact ihy hcov.2 hr ho hn hx
  ·simp at hr
 | block i c ih=>
  intro hcov h R s kn kx r Q hr ho hn hx
  simp only [DJ] at hr
  refine jL (ih hcov hr ho hn fun e s' hne hu hok hk=>?_)
  split at hk
  ·rename_i he
   obtain ⟨rfl,_⟩:=Dz he
   simp only [pW,if_pos]
   exact hn s' hu hok hk
  ·rename_i he
   cases e with
   | exit j=>
    simp only [pW]
    split
    ·rename_i hj;subst hj;simp [exB] at he
    ·exact hx _ s' hne hu hok hk
   | normal=>exact absurd rfl hne
   | goto l=>exact hx _ s' hne hu hok hk
   | ret=>exact hx _ s' hne hu hok hk
   | panic c=>exact hx _ s' hne hu hok hk
   | outgrown=>exact hx _ s' hne hu hok hk
 | scope c ih=>
  intro hcov h R s kn kx r Q hr ho hn hx
  simp only [DJ] at hr
  exact Ii (CO (ih hcov.1 hr ho hn fun e s' hne hu hok hk=>Fo (fun l rest hf=>hJ rest (hcov.2 l rest hf)) hn hx 4 e s' hne hu hok hk))
 | seq x y ihx ihy=>
  intro hcov h R s kn kx r Q hr ho hn hx
  simp only [DJ] at hr
  split at hr
  ·rename_i tm a b
   obtain ⟨v,hv,hr⟩:=bind_some hr
   refine cK ((ihx hcov.1 (Q:=fun e al L=>e = .normal/\Weak E K al L (dal (tm.app v s.clean).al) (dlb (tm.app v s.clean).L)/\(tm.app v s.clean).ok) hv (jJ ho) (fun s' hu hok hk=>?_) (fun e s' hne hu hok hk=>by simp at hk)).mono ?_)
   ·obtain ⟨w,hw,hk⟩:=iy hk
    simp at hk;subst hk
    exact ⟨rfl,j7 hw (hu _ (.refl _)) hok (jJ ho) hK hE⟩
   ·rintro e al L ⟨rfl,hw,hok⟩
    exact cY hw (ihy hcov.2 (s:=tm.app v s) hr hok (fun s' hu=>hn s' ((uX tm v s).trans hu)) fun e s' hne hu=>hx e s' hne ((uX tm v s).trans hu))
  ·rename_i tm a b
   obtain ⟨o,hv,hr⟩:=bind_some hr
   refine cK ((ihx hcov.1 (Q:=fun e al L=>match o with
     | .inl v=>e = .normal/\Weak E K al L (dal (tm.app v s.clean).al) (dlb (tm.app v s.clean).L)/\(tm.app v s.clean).ok
     | .inr w=>e ≠ .normal/\Q e al L) hv (jJ ho) (fun s' hu hok hk=>?_) (fun e s' hne hu hok hk=>?_)).mono ?_)
   ·obtain ⟨w,hw,hk⟩:=iy hk
    simp at hk;subst hk
    exact ⟨rfl,j7 hw (hu _ (.refl _)) hok (jJ ho) hK hE⟩
   ·obtain ⟨w,hk',rfl⟩:=map_some hk
    simp at hr;subst hr
    exact ⟨hne,hx e { s' with ds:=s'.ds++s.ds,dl:=s'.dl++s.dl } hne (fun b hb=>hb.trans' (hu _ (.refl _))) hok hk'⟩
   ·intro e al L hq
    cases o with
    | inl v=>
     obtain ⟨rfl,hw,hok⟩:=hq
     exact cY hw (ihy hcov.2 (s:=tm.app v s) hr hok (fun s' hu=>hn s' ((uX tm v s).trans hu)) fun e s' hne hu=>hx e s' hne ((uX tm v s).trans hu))
    | inr w=>
     obtain ⟨hne,hq⟩:=hq
     cases e with
     | normal=>exact absurd rfl hne
     | _=>exact hq
  ·refine cK (ihx hcov.1 hr ho (fun s' hu hok hk=>ihy hcov.2 hk hok (fun s'' hu'=>hn s'' (hu.trans hu')) fun e s'' hne hu'=>hx e s'' hne (hu.trans hu')) fun e s' hne hu hok hk=>?_)
   have:=hx e s' hne hu hok hk
   cases e with
   | normal=>exact absurd rfl hne
   | _=>exact this
 | loop c ih=>
  intro hcov h R s kn kx r Q hr ho hn hx
  simp only [DJ] at hr
  split at hr
  ·rename_i tm xs a
   split at hr
   ·rename_i hkOK
    obtain ⟨v0,h0,hr⟩:=iy hr
    obtain ⟨o,hl,hr⟩:=bind_some hr
    obtain ⟨hw0,_⟩:=j7 h0 (.refl _) (jJ ho) (jJ ho) hK hE
    refine Ik _ (fun v=>dal (tm.app v s.clean).al) (fun v=>dlb (tm.app v s.clean).L)
     (fun v e al L=>∃x∈xs,∃w:x.2.T,e=x.1/\Weak E K al L (dal (x.2.app w s.clean).al) (dlb (x.2.app w s.clean).L)/\(x.2.app w s.clean).ok/\∀(s0:St) {R':Type} (kx:Exit->St->Option R'),Eg s0 kx xs v=kx x.1 (x.2.app w s0)) hl hw0 (fun v o' hst=>?_) ?_
    ·have hok:=H2 hkOK v (jJ ho)
     have hue:Ext s.clean (tm.app v s.clean):=uX tm v s.clean _ (.refl _)
     refine ih hcov (s:=tm.app v s.clean) hst hok (fun s' hu hok' hk=>?_) (fun e s' hne hu hok' hk=>?_)
     ·obtain ⟨w,hw,hk⟩:=iy hk
      simp at hk;subst hk
      exact .on (j7 hw (hu _ hue) hok' (jJ ho) hK hE).1
     ·obtain ⟨w,hk,x,hx,u,e1,e2,e3,e4,e5⟩:=yY (hu _ hue) hok' (jJ ho) hK hE hk
      simp at hk;subst hk
      exact .off e2 ⟨x,hx,u,e1,e3,e4,e5⟩
    ·rintro e al L ⟨x,_,w,rfl,hw,hok,hc⟩ hne
     rw [hc] at hr
     exact ⟨_,_,hw,hx x.1 (x.2.app w s) hne (uX x.2 w s) hok hr⟩
   ·simp at hr
  ·simp at hr
 | rangeFunc f ps a b=>intro hcov h R s kn kx r Q hr ho hn hx;simp only [DJ] at hr;exact hJ _ hcov hr ho hn hx
 | refuse=>intro hcov h R s kn kx r Q hr ho hn hx;simp [DJ] at hr
theorem D_ok (hm:E.P.follows .mixedOrders=true) (hG:E.G=gtPV G) (hE:GOK E) {ks:List Nat} (hK:∀l,K l->l∈ks):∀(c:Code) {h:Hint} {R:Type} {s:St} {kn:St->Option R} {kx:Exit->St->Option R} {r:R} {Q:Exit->Al->Lb->Prop},
  D E G C n c h R ks s kn kx=some r->s.ok->(∀s',Up s s'->s'.ok->kn s'=some r->Q .normal (dal s'.al) (dlb s'.L))->(∀e s',e ≠ .normal->Up s s'->s'.ok->kx e s'=some r->Q e (dal s'.al) (dlb s'.L)) ->
  AW E K n c Q (dal s.al) (dlb s.L):=fun c {h R s kn kx r Q}=>Ib (JS:=fun _=>True) hm hG hE hK (fun c _ {h R s kn kx r Q}=>Ib (JS:=fun _=>True) hm hG hE hK (fun c _=>Ku c) c (Cov.all (fun _=>trivial) c)) c (Cov.all (fun _=>trivial) c)
end
end Go.SH
namespace Go.SH
variable [SentA]
def L4 (E:Env) (fn:Func) (v:PV):Exit->Al->Lb->Prop:=
 fun e al L=>(match e with | .normal=>True | .ret=>True | _=>False)/\∃xs,xres E.P al L fn.results.toList=some xs/\ji L (rtup xs) v
theorem Bk {E:Env} (hE:GOK E) {f:FuncId} {fn:Func} {c:Code} {args:List PV} {v:PV} (hf:E.P.funcs[f]?=some fn) (hb:fn.body=some c) (hn:args.length<=fn.ntmps)
  (h:AW (E.on none none) (fun _=>False) fn.ntmps c (L4 (E.on none none) fn v) (lQ args 0) []):Pure E f args v:=by
 intro A w σ cargs hl hv hbr hg
 refine calls_of_wp hf hb (wpIn_wide.1 (wpIn_mono (h A w σ _ ⟨?_,hbr,hg,rfl⟩ ?_) ?_))
 ·intro t x hx
  obtain ⟨h1,h2⟩:=jU args 0 t x hx
  simp at h2
  have ht:t<cargs.length:=by rw [hl];exact (List.getElem?_eq_some_iff.1 h2).1
  exact ⟨cargs[t],by rw [Array.getElem?_append_left (by simpa using ht)];simp [ht],hv t x _ h2 (List.getElem?_eq_getElem ht)⟩
 ·simp;omega
 ·rintro e a' w' ⟨al',L',σ',⟨he,xs,hx,z,hz,hle⟩,r',g',t'⟩
  have hdis:∀β,avOf σ' L' β->¬avo A sig0 [] β:=by
   rintro β h (h' | h')
   ·exact (r'.blocks.lo β h').2 h
   ·exact avz h'
  have hsub:∀β,¬avo A σ' L' β->¬avo A sig0 [] β:=by
   rintro β h (h' | h')
   ·exact h (.inl h')
   ·exact avz h'
  obtain ⟨u,h1,h2⟩:=gl r' hx
  have h2':VR w' sig0 (avo A sig0 []) v u:=hle _ _ _ _ (hz.ok r'.blocks h2 hsub hdis)
  have hbr':BR w' sig0 A []:=BR0 fun β hA=>(r'.blocks.lo β hA).1
  have hgr:Grow (fun l=>lget ([]:Lb) l≠none) w σ [] w' sig0 []:=⟨g'.size,fun l y hk=>absurd rfl hk,fun β hb hn=>⟨avz,(g'.keep β hb hn).2⟩,g'.out,fun hk=>absurd rfl hk⟩
  cases e with
  | normal=>exact ⟨r'.nodefer,u,h1,_,u,[],sig0,rfl,⟨rfl,rfl⟩,h2',hbr',hgr⟩
  | ret=>exact ⟨r'.nodefer,u,h1,_,u,[],sig0,rfl,⟨rfl,rfl⟩,h2',hbr',hgr⟩
  | _=>exact he.elim
inductive FamRes (qq:Nat) (L:Lb):PV->PV->Prop where
 | le {x:PV} {cells:List PV} {n:Nat} (h:PLe x (.fs qq cells n none)) (hp:ag (fun _=>false) cells=true):FamRes qq L x (.fs qq cells n none)
 | rw {l off n sz:Nat} {co:Option Nat} {cells part ys:List PV} (hl:lget L l=some (some cells)) (hp:(cells.drop off).take (n*sz)=part) (hin:off+n*sz<=cells.length) (hpure:ag (fun _=>false) part=true) (hle:CLe part ys):FamRes qq L (.rw l off n sz co) (.fs qq ys n none)
def L5 (qq:Nat) (E:Env) (fn:Func) (v:PV):Exit->Al->Lb->Prop:=
 fun e al L=>(match e with | .normal=>True | .ret=>True | _=>False)/\∃x,xres E.P al L fn.results.toList=some [x]/\FamRes qq L x v
theorem FamRes.ok {qq:Nat} {A:Nat->Prop} {w:World} {σ:Sig} {L:Lb} (hb:BR w σ A L) {x v:PV} (h:FamRes qq L x v) {u:Value} (hv:VR w σ (avo A σ L) x u) :
  ∃σf:Sig,(∀β,avOf σf [] β->avOf σ L β)/\BR w σf A []/\VR w σf (avo A σf []) v u:=by
 have mk:∀B:Nat->Nat->Prop,(∀β add,B β add->cd σ L β)->(∀β add add',B β add->B β add'->add=add') ->
   let σf:Sig:=⟨fun _=>none,fun q β add=>q=qq/\(σ.fam qq β add\/B β add)⟩
   (∀β,avOf σf [] β->avOf σ L β)/\BR w σf A []:=by
  intro B hB1 hB2 σf
  have hav:∀β,avOf σf [] β->avOf σ L β:=by
   rintro β (⟨l,c,a,s,h1,_⟩ | ⟨q,add,_,h | h⟩)
   ·simp [lget] at h1
   ·exact .inr ⟨qq,add,h⟩
   ·exact .inl (hB1 β add h)
  refine ⟨hav,⟨by simp [lget],by simp [lget],by simp [σf],fun β hA=>⟨(hb.lo β hA).1,fun h=>(hb.lo β hA).2 (hav β h)⟩,⟨?_,?_,?_⟩⟩⟩
  ·rintro q β add ⟨_,h⟩
   refine ⟨?_,by rintro ⟨l,c,a,s,h1,_⟩;simp [lget] at h1⟩
   rcases h with h | h
   ·exact (hb.fr.fam qq β add h).1
   ·exact hb.lt (.inl (hB1 β add h))
  ·rintro q β add ⟨_,h | h⟩
   ·exact hb.fr.cel qq β add h
   ·obtain ⟨l,c,a,s,h1,h2⟩:=hB1 β add h
    rcases hb.all l c h1 with ⟨h3,_⟩ | ⟨β',a',s',cc,T,fr,hBk⟩
    ·rw [h2] at h3;simp at h3
    ·have:=hBk.sig;rw [h2] at this;simp at this
     obtain ⟨rfl,_,_⟩:=this
     exact ⟨_,_,_,hBk.heap⟩
  ·rintro q q' β add add' ⟨e1,h⟩ ⟨e2,h'⟩
   refine ⟨e1.trans e2.symm,?_⟩
   rcases h with h | h <;> rcases h' with h' | h'
   ·exact (hb.fr.one _ _ _ _ _ h h').2
   ·exact ((hb.fr.fam qq β add h).2 (hB1 β add' h')).elim
   ·exact ((hb.fr.fam qq β add' h').2 (hB1 β add h)).elim
   ·exact hB2 β add add' h h'
 cases h with
 | @le _ cells n h hp=>
  obtain ⟨h1,h2⟩:=mk (fun _ _=>False) (fun _ _ h=>h.elim) (fun _ _ _ h=>h.elim)
  have hsub:∀β,¬avo A σ L β->¬avo A ⟨fun _=>none,fun q β add=>q=qq/\(σ.fam qq β add\/False)⟩ [] β:=by
   rintro β hn (h' | h')
   ·exact hn (.inl h')
   ·exact hn (.inr (h1 β h'))
  refine ⟨_,h1,h2,?_⟩
  have h3:=h _ _ _ _ hv
  cases h3 with
  | fsE a cap hc=>exact .fsE a cap hc
  | fs hf hh hfr hl hv' hn hc hz=>exact .fs ⟨rfl,.inl hf⟩ hh hfr hl (fun i x v hx hv2=>(hv' i x v hx hv2).pure (az hp hx) hsub) hn hc hz
 | @rw l off n sz co cells part ys hl hp hin hpure hle=>
  cases hv with
  | rwE a hc=>
   obtain ⟨h1,h2⟩:=mk (fun _ _=>False) (fun _ _ h=>h.elim) (fun _ _ _ h=>h.elim)
   refine ⟨_,h1,h2,?_⟩
   have:part=[]:=by rw [<-hp];simp
   subst this
   have:ys=[]:=List.eq_nil_of_length_eq_zero hle.1.symm
   subst this
   exact .fsE a 0 (by simp)
  | @rw _ _ _ _ _ β add size cap hs hn hc hsz=>
   rcases hb.all l cells hl with ⟨h3,h4⟩ | ⟨β',add',size',c,T,fr,hB⟩
   ·rw [hs] at h3;simp at h3
   ·have:=hB.sig;rw [hs] at this;simp at this
    obtain ⟨rfl,rfl,rfl⟩:=this
    obtain ⟨h1,h2⟩:=mk (fun γ ad=>γ=β/\ad=add+off) (by rintro γ ad ⟨rfl,rfl⟩;exact ⟨l,cells,add,size,hl,hs⟩) (by rintro γ a a' ⟨_,rfl⟩ ⟨_,rfl⟩;rfl)
    have hsub:∀γ,¬avo A σ L γ->¬avo A ⟨fun _=>none,fun q γ ad=>q=qq/\(σ.fam qq γ ad\/(γ=β/\ad=add+off))⟩ [] γ:=by
     rintro γ hn (h' | h')
     ·exact hn (.inl h')
     ·exact hn (.inr (h1 γ h'))
    refine ⟨_,h1,h2,?_⟩
    have hlen:part.length=n*sz:=by rw [<-hp];simp;omega
    have get:∀i x,part[i]?=some x->cells[off+i]?=some x:=by
     intro i x hx
     rw [<-hp,List.getElem?_take] at hx
     split at hx
     ·rw [List.getElem?_drop] at hx;exact hx
     ·simp at hx
    have hfit:=hB.fits
    refine .fs (T:=T) (fr:=fr) (c:=c) ⟨rfl,.inr ⟨rfl,rfl⟩⟩ hB.heap (by rw [hB.hsz];exact hB.frs) (by rw [<-hle.1,hlen,hB.hsz];omega) (fun i y v hy hv2=>?_) hn (by simp) (fun sz' h0 hsz'=>by
     rw [<-hle.1,hlen] at hsz'
     have:sz=sz':=Nat.eq_of_mul_eq_mul_left h0 hsz'
     subst this;rw [hB.hsz];exact hsz)
    have hi:i<part.length:=by rw [hle.1];exact (List.getElem?_eq_some_iff.1 hy).1
    have hpi:=List.getElem?_eq_getElem hi
    obtain ⟨u,h5,h6⟩:=hB.vals _ _ (get i _ hpi)
    rw [<-Nat.add_assoc] at h5
    rw [h5] at hv2;simp at hv2;subst hv2
    exact hle.2 i _ y hpi hy _ _ _ _ (h6.pure (az hpure hpi) hsub)
theorem Bl {qq:Nat} {E:Env} {f:FuncId} {fn:Func} {c:Code} {args:List PV} {v:PV} (hf:E.P.funcs[f]?=some fn) (hb:fn.body=some c) (hn:args.length<=fn.ntmps)
  (h:AW (E.on none none) (fun _=>False) fn.ntmps c (L5 qq (E.on none none) fn v) (lQ args 0) []):Pure E f args v:=by
 intro A w σ cargs hl hv hbr hg
 refine calls_of_wp hf hb (wpIn_wide.1 (wpIn_mono (h A w σ _ ⟨?_,hbr,hg,rfl⟩ ?_) ?_))
 ·intro t x hx
  obtain ⟨h1,h2⟩:=jU args 0 t x hx
  simp at h2
  have ht:t<cargs.length:=by rw [hl];exact (List.getElem?_eq_some_iff.1 h2).1
  exact ⟨cargs[t],by rw [Array.getElem?_append_left (by simpa using ht)];simp [ht],hv t x _ h2 (List.getElem?_eq_getElem ht)⟩
 ·simp;omega
 ·rintro e a' w' ⟨al',L',σ',⟨he,x,hx,hz⟩,r',g',t'⟩
  obtain ⟨u,h1,h2⟩:=gl r' hx
  obtain ⟨σf,k1,k2,k3⟩:=hz.ok r'.blocks h2
  have hgr:Grow (fun l=>lget ([]:Lb) l≠none) w σ [] w' σf []:=⟨g'.size,fun l y hk=>absurd rfl hk,fun β hb hn=>⟨fun h=>(g'.keep β hb hn).1 (k1 β h),(g'.keep β hb hn).2⟩,g'.out,fun hk=>absurd rfl hk⟩
  cases e with
  | normal=>exact ⟨r'.nodefer,u,h1,_,u,[],σf,rfl,⟨rfl,rfl⟩,k3,k2,hgr⟩
  | ret=>exact ⟨r'.nodefer,u,h1,_,u,[],σf,rfl,⟨rfl,rfl⟩,k3,k2,hgr⟩
  | _=>exact he.elim
theorem Weak.virt {E:Env} {K:Nat->Prop} {al:Al} {L:Lb} {l:Nat} (h:lget L l=none):Weak E K al L al (lset L l (some [])):=fun A w σ a r=>by
 obtain ⟨b1,b2⟩:=r.blocks.virtual h
 exact ⟨σ,r.grow b1 b2,b2.weaken fun _ _=>trivial⟩
def wK {R:Type}:List Nat->DLb->(DLb->Option R)->Option R
 | [],L,k=>k L
 | v::r,L,k=>match lget L v with
  | none=>wK r (lset L v (.cs [])) k
  | some _=>none
theorem o4 {E:Env} {K:Nat->Prop} {R:Type} {r:R} {al:Al}:∀{vs:List Nat} {L:DLb} {k:DLb->Option R},wK vs L k=some r->lbOk L ->
  ∃L',k L'=some r/\lbOk L'/\(∀l,l ∉ vs->lget L' l=lget L l)/\Weak E K al (dlb L) al (dlb L')
 | [],L,k,h,hL=>⟨L,h,hL,fun _ _=>rfl,.refl⟩
 | v::vs,L,k,h,hL=>by
  simp only [wK] at h
  split at h
  ·rename_i hv
   obtain ⟨L',h1,h2,h3,h4⟩:=o4 (E:=E) (K:=K) (al:=al) h (fun l c hc=>by
    rw [ao] at hc
    split at hc
    ·simp at hc;subst hc;trivial
    ·exact hL l c hc)
   refine ⟨L',h1,h2,fun l hl=>?_,?_⟩
   ·simp only [List.mem_cons,not_or] at hl
    rw [h3 l hl.2,ao,if_neg (fun e=>hl.1 e.symm)]
   ·refine Weak.trans ?_ h4
    have e:dlb (lset L v (.cs []))=lset (dlb L) v (some []):=(pz DC.pv L v (.cs [])).symm
    rw [e]
    exact Weak.virt (by rw [an,hv];rfl)
  ·simp at h
def dres (P:Program) (s:St):List ResultVar->Option (List DV)
 | []=>some []
 | .tmp t::r=>match lget s.al t with
  | some x=>match dres P s r with
   | some xs=>some (x::xs)
   | none=>none
  | none=>none
 | .cell t T::r=>match lget s.al t with
  | some (.ptr l off)=>match lget s.L l with
   | some (.cs cs)=>match qV P T cs off with
    | some x=>match dres P s r with
     | some xs=>some (x::xs)
     | none=>none
    | none=>none
   | _=>none
  | _=>none
theorem ou {P:Program} {s:St} (hs:s.ok):∀{rs:List ResultVar} {xs:List DV},dres P s rs=some xs->xres P (dal s.al) (dlb s.L) rs=some (DV.pvs xs)/\DV.oks xs
 | [],xs,h=>by simp [dres] at h;subst h;exact ⟨rfl,trivial⟩
 | .tmp t::r,xs,h=>by
  simp only [dres] at h
  split at h
  ·rename_i x hx
   split at h
   ·rename_i ys hy
    simp at h;subst h
    obtain ⟨h1,h2⟩:=ou hs hy
    exact ⟨by simp [xres,aZ,hx,h1,DV.pvs],hs.1 _ _ hx,h2⟩
   ·simp at h
  ·simp at h
 | .cell t T::r,xs,h=>by
  simp only [dres] at h
  split at h
  ·rename_i l off ht
   split at h
   ·rename_i cs hl
    split at h
    ·rename_i x hx
     split at h
     ·rename_i ys hy
      simp at h;subst h
      obtain ⟨h1,h2⟩:=ou hs hy
      obtain ⟨_,e2,e3⟩:=kK (hs.2 _ _ hl) hx
      refine ⟨?_,e3,h2⟩
      simp only [xres,aZ,ht,Option.map_some,h1,DV.pvs,DV.pv]
      rw [oY (cells:=DV.pvs cs) (off:=off) (by simp [fG,an,hl,DC.pv]),e2]
     ·simp at h
    ·simp at h
   ·simp at h
  ·simp at h
def dtup:List DV->DV
 | [x]=>x
 | xs=>.tup xs
theorem wy (xs:List DV):(dtup xs).pv=rtup (DV.pvs xs):=by
 cases xs with
 | nil=>rfl
 | cons x xs=>cases xs <;> rfl
def dE:List DV->Nat->DAl
 | [],_=>[]
 | x::r,i=>(i,x)::dE r (i+1)
theorem nD:∀(xs:List DV) (i:Nat),dal (dE xs i)=lQ (DV.pvs xs) i
 | [],_=>rfl
 | x::r,i=>by show (i,x.pv)::dal (dE r (i+1))=_;rw [nD r];rfl
theorem nE:∀{xs:List DV} {i:Nat},DV.oks xs->alOk (dE xs i)
 | [],_,_=>fun t x h=>by simp [dE,lget] at h
 | y::r,i,h=>fun t x hx=>by
  simp only [dE,lget] at hx
  split at hx
  ·simp at hx;subst hx;exact h.1
  ·exact nE h.2 t x hx
theorem BU {len:Nat->Nat}:∀(ss:List Sh) (vs:List TV),(Sh.mks len ss vs).1.length=ss.length
 | [],vs=>rfl
 | s::ss,vs=>by simp only [Sh.mks,List.length_cons];rw [BU]
def DF (E:Env) (G:GTab) (C:CT E) (n:Nat) (rs:List ResultVar) (c:Code) (h:Hint) (ar:List Sh) (out:Sh) (a:HT (Sh.hss ar)) (vs:List Nat:=[]):Option (HT out.hs):=
 let fin (s:St):Option (HT out.hs):=match dres E.P s rs with
  | some ds=>out.getB s.L (dtup ds) ⟨[],[],[]⟩ fun g=>pack out.hs g.vs
  | none=>none
 wK vs [] fun L=>D E G C n c h (HT out.hs) [] ⟨dE (Sh.mks dz0 ar (ab _ a)).1 0,L,[],[]⟩ fin fun e s=>match e with
  | .ret=>fin s
  | _=>none
theorem Ie {E:Env} {G:GTab} {C:CT E} (h0:E.on none none=E) (hm:E.P.follows .mixedOrders=true) (hG:E.G=gtPV G) (hE:GOK E) {f:FuncId} {fn:Func} {c:Code} (hf:E.P.funcs[f]?=some fn) (hb:fn.body=some c)
  {h:Hint} {ar:List Sh} {out:Sh} {vs:List Nat} (hk:Sh.kOKs ar=true) (hn:ar.length<=fn.ntmps) {a:HT (Sh.hss ar)} {v:HT out.hs} (hv:DF E G C fn.ntmps fn.results.toList c h ar out a vs=some v) :
  Pure E f (DV.pvs (Sh.mks dz0 ar (ab _ a)).1) (out.mk dz0 (ab _ v)).1.pv:=by
 have hlen:∀(ss:List Sh) (vs:List TV),(Sh.mks dz0 ss vs).1.length=ss.length:=by
  intro ss
  induction ss with
  | nil=>intro vs;rfl
  | cons s ss ih=>intro vs;simp only [Sh.mks,List.length_cons];rw [ih]
 refine Bk hE hf hb (by rw [aB,hlen];exact hn) ?_
 rw [h0,<-nD]
 have hfin:∀s:St,s.ok->(match dres E.P s fn.results.toList with
   | some ds=>out.getB s.L (dtup ds) ⟨[],[],[]⟩ fun g=>pack out.hs g.vs
   | none=>none)=some v->∃xs,xres E.P (dal s.al) (dlb s.L) fn.results.toList=some xs/\ji (dlb s.L) (rtup xs) (out.mk dz0 (ab _ v)).1.pv:=by
  intro s hs hr
  split at hr
  ·rename_i ds hds
   obtain ⟨h1,h2⟩:=ou hs hds
   obtain ⟨g,hg,xs,e1,e2,e3⟩:=EK out hr
   obtain ⟨_,e4,_⟩:=e3 dz0 []
   refine ⟨_,h1,?_⟩
   rw [<-wy]
   have e5:g.vs=xs:=by rw [e1];rfl
   rw [List.append_nil,<-e5,<-sK hg] at e4
   exact e4
  ·simp at hr
 obtain ⟨L0,hv,hL0,_,hW⟩:=o4 (E:=E) (K:=fun _=>False) (al:=dal (dE (Sh.mks dz0 ar (ab _ a)).1 0)) hv (fun l c hl=>by simp [lget] at hl)
 refine cY hW ?_
 exact D_ok (s:=⟨dE (Sh.mks dz0 ar (ab _ a)).1 0,L0,[],[]⟩) (K:=fun _=>False) hm hG hE (fun _ h=>h.elim) c hv ⟨nE (lH _ _ _ hk),hL0⟩
  (fun s' _ hok hr=>⟨trivial,hfin s' hok hr⟩) fun e s' hne _ hok hr=>by
   cases e with
   | ret=>exact ⟨trivial,hfin s' hok hr⟩
   | _=>simp at hr
def famK {R:Type} (qq:Nat) (rl:DLb) (t:ET) (d:DV) (kk:List t.T->Option R):Option R:=if t.noF=true then match d with
 | .nils=>kk []
 | .fsl q t' l=>if h:t'=t then if q=qq then kk (h▸l) else none else none
 | .rw lab sz off n co w=>if mN rl lab=true then srcL rl t (.rw lab sz off n co w) kk else none
 | _=>none else none
theorem Jb {R:Type} {r:R} {qq:Nat} {rl:DLb} {t:ET} {d:DV} {kk:List t.T->Option R} (h:famK qq rl t d kk=some r):∃l,kk l=some r/\FamRes qq (dlb rl) d.pv (DV.fsl qq t l).pv:=by
 unfold famK at h
 split at h
 ·rename_i ht
  split at h
  ·exact ⟨[],h,.le .nilsFs rfl⟩
  ·split at h
   ·rename_i e;subst e
    split at h
    ·rename_i e;subst e;exact ⟨_,h,.le (.refl _) (hY ht _)⟩
    ·simp at h
   ·simp at h
  ·split at h
   ·rename_i hp
    obtain ⟨l,cells,hs,h'⟩:=iG h
    obtain ⟨cc,h1,h2,h3,h4,h5⟩:=hs.rw _ _ _ _ _ _ rfl
    subst h5;subst h3
    refine ⟨l,h',.rw h1 h4 h2 ?_ hs.le⟩
    rw [<-h4]
    unfold mN at hp
    split at hp
    ·rename_i c hc
     rw [an,hc] at h1
     exact ly (lA hp (by simpa using h1)) _ _
    ·simp at hp
   ·simp at h
  ·simp at h
 ·simp at h
def DFF (E:Env) (G:GTab) (C:CT E) (n:Nat) (rs:List ResultVar) (c:Code) (h:Hint) (ar:List Sh) (qq:Nat) (t:ET) (a:HT (Sh.hss ar)) (vs:List Nat:=[]):Option (List t.T):=
 let fin (s:St):Option (List t.T):=match dres E.P s rs with
  | some [d]=>famK qq s.L t d some
  | _=>none
 wK vs [] fun L=>D E G C n c h (List t.T) [] ⟨dE (Sh.mks dz0 ar (ab _ a)).1 0,L,[],[]⟩ fin fun e s=>match e with
  | .ret=>fin s
  | _=>none
theorem jY {E:Env} {G:GTab} {C:CT E} (h0:E.on none none=E) (hm:E.P.follows .mixedOrders=true) (hG:E.G=gtPV G) (hE:GOK E) {f:FuncId} {fn:Func} {c:Code} (hf:E.P.funcs[f]?=some fn) (hb:fn.body=some c)
  {h:Hint} {ar:List Sh} {qq:Nat} {t:ET} {vs:List Nat} (hk:Sh.kOKs ar=true) (hn:ar.length<=fn.ntmps) {a:HT (Sh.hss ar)} {v:List t.T} (hv:DFF E G C fn.ntmps fn.results.toList c h ar qq t a vs=some v) :
  Pure E f (DV.pvs (Sh.mks dz0 ar (ab _ a)).1) (DV.fsl qq t v).pv:=by
 refine Bl (qq:=qq) hf hb (by rw [aB,BU];exact hn) ?_
 rw [h0,<-nD]
 have hfin:∀s:St,s.ok->(match dres E.P s fn.results.toList with
   | some [d]=>famK qq s.L t d some
   | _=>none)=some v->∃x,xres E.P (dal s.al) (dlb s.L) fn.results.toList=some [x]/\FamRes qq (dlb s.L) x (DV.fsl qq t v).pv:=by
  intro s hs hr
  split at hr
  ·rename_i d hds
   obtain ⟨h1,h2⟩:=ou hs hds
   obtain ⟨l,hl,hF⟩:=Jb hr
   simp at hl;subst hl
   exact ⟨_,h1,hF⟩
  ·simp at hr
 obtain ⟨L0,hv,hL0,_,hW⟩:=o4 (E:=E) (K:=fun _=>False) (al:=dal (dE (Sh.mks dz0 ar (ab _ a)).1 0)) hv (fun l c hl=>by simp [lget] at hl)
 refine cY hW ?_
 exact D_ok (s:=⟨dE (Sh.mks dz0 ar (ab _ a)).1 0,L0,[],[]⟩) (K:=fun _=>False) hm hG hE (fun _ h=>h.elim) c hv ⟨nE (lH _ _ _ hk),hL0⟩
  (fun s' _ hok hr=>⟨trivial,hfin s' hok hr⟩) fun e s' hne _ hok hr=>by
   cases e with
   | ret=>exact ⟨trivial,hfin s' hok hr⟩
   | _=>simp at hr
end Go.SH
namespace Go.SH
variable [SentA]
theorem qZ {E:Env} {f:FuncId} {fn:Func} {c:Code} {args:List PV} {L L1:Lb} {al1:Al} {V:PV} (hf:E.P.funcs[f]?=some fn) (hb:fn.body=some c) (hn:args.length<=fn.ntmps) (hV:lget al1 0=some V)
  (h:AW (E.on none none) (fun l=>lget L l≠none) fn.ntmps c (fun e al L'=>(match e with | .normal=>True | .ret=>True | _=>False)/\∃xs,xres E.P al L' fn.results.toList=some xs/\Weak (E.on none none) (fun l=>lget L l≠none) [(0,rtup xs)] L' al1 L1) (lQ args 0) L) :
  dQ E f args L fun x L'=>x=V/\L'=L1:=by
 intro A w σ cargs hl hv hbr hg
 refine calls_of_wp hf hb (wpIn_wide.1 (wpIn_mono (h A w σ _ ⟨?_,hbr,hg,rfl⟩ ?_) ?_))
 ·intro t x hx
  obtain ⟨h1,h2⟩:=jU args 0 t x hx
  simp at h2
  have ht:t<cargs.length:=by rw [hl];exact (List.getElem?_eq_some_iff.1 h2).1
  exact ⟨cargs[t],by rw [Array.getElem?_append_left (by simpa using ht)];simp [ht],hv t x _ h2 (List.getElem?_eq_getElem ht)⟩
 ·simp;omega
 ·rintro e a' w' ⟨al',L',σ',⟨he,xs,hx,hW⟩,r',g',t'⟩
  obtain ⟨v,h1,h2⟩:=gl r' hx
  have r1:Rel (E.on none none) A w' σ' [(0,rtup xs)] L' { tmps:=#[v],defers:=a'.defers }:=⟨fun t x hx=>by
   simp only [lget] at hx
   split at hx
   ·rename_i e;subst e;simp at hx;subst hx;exact ⟨v,rfl,h2⟩
   ·simp at hx,r'.blocks,r'.globals,r'.nodefer⟩
  obtain ⟨σ2,r2,g2⟩:=hW A w' σ' _ r1
  obtain ⟨u,h3,h4⟩:=r2.tmps 0 V hV
  simp at h3;subst h3
  cases e with
  | normal=>exact ⟨r'.nodefer,v,h1,_,v,L1,σ2,rfl,⟨rfl,rfl⟩,h4,r2.blocks,g'.trans g2⟩
  | ret=>exact ⟨r'.nodefer,v,h1,_,v,L1,σ2,rfl,⟨rfl,rfl⟩,h4,r2.blocks,g'.trans g2⟩
  | _=>exact he.elim
def DIe (E:Env) (G:GTab) (C:CT E) (n:Nat) (rs:List ResultVar) (c:Code) (h:Hint) (ar:List Sh) (ls:List (Nat×LSh)) (ot:Tm) (a:HT (Sh.hss ar++hsL ls)) (ent:List DV) (vs:List Nat):Option ot.T:=
 let b:=inS ar ls (ab _ a)
 let fin (s:St):Option ot.T:=match dres E.P s rs with
  | some ds=>ot.leafK (keys ls) b ⟨[(0,dtup ds)],s.L,[0],s.dl⟩ some
  | none=>none
 wK vs b.L fun L=>D E G C n c h ot.T (keys ls) ⟨dE ent 0,L,[],vs.map fun v=>(v,none)⟩ fin fun e s=>match e with
  | .ret=>fin s
  | _=>none
def DI (E:Env) (G:GTab) (C:CT E) (n:Nat) (rs:List ResultVar) (c:Code) (h:Hint) (ar:List Sh) (ls:List (Nat×LSh)) (ot:Tm) (a:HT (Sh.hss ar++hsL ls)) (vs:List Nat:=[]):Option ot.T:=
 DIe E G C n rs c h ar ls ot a (inA ar ls (ab _ a)) vs
def qQ (ot:Tm):Bool:=match ot.slots with
 | [(0,_)]=>true
 | _=>false
theorem AJ {ds:List DV} (h:DV.oks ds):(dtup ds).ok:=by
 cases ds with
 | nil=>trivial
 | cons x xs=>cases xs with
  | nil=>exact h.1
  | cons y ys=>exact h
theorem qa {ot:Tm} (h:qQ ot=true) (v:ot.T) {b:St}:∃V,lget (ot.app v b).al 0=some V:=by
 unfold qQ at h
 split at h
 ·rename_i s hs
  have:∃x r,(ot.app v b).al=(0,x)::r:=by
   simp only [Tm.app,Tm.appL,hs,mkS,List.cons_append,List.nil_append]
   exact ⟨_,_,rfl⟩
  obtain ⟨x,r,e⟩:=this
  exact ⟨x,by rw [e];simp [lget]⟩
 ·simp at h
theorem Id {E:Env} {G:GTab} {C:CT E} (h0:E.on none none=E) (hm:E.P.follows .mixedOrders=true) (hG:E.G=gtPV G) (hE:GOK E) {f:FuncId} {fn:Func} {c:Code} (hf:E.P.funcs[f]?=some fn) (hb:fn.body=some c)
  {h:Hint} {ar:List Sh} {ls:List (Nat×LSh)} {ot:Tm} {vs:List Nat} (hk2:(ls.all fun p=>p.2.kOK)=true) (hk3:qQ ot=true) {ent:List DV} (hent:DV.oks ent) (hk4:ent.length<=fn.ntmps) {a:HT (Sh.hss ar++hsL ls)} {v:ot.T} (hv:DIe E G C fn.ntmps fn.results.toList c h ar ls ot a ent vs=some v) :
  dQ E f (DV.pvs ent) (dlb (inL ar ls (ab _ a))) fun x L=>x=(resV (ot.app v (inS ar ls (ab _ a)))).pv/\L=dlb (ot.app v (inS ar ls (ab _ a))).L:=by
 obtain ⟨V,hV⟩:=qa hk3 v (b:=inS ar ls (ab _ a))
 have hres:resV (ot.app v (inS ar ls (ab _ a)))=V:=by unfold resV;rw [hV]
 rw [hres]
 have hbok:(inS ar ls (ab _ a)).ok:=⟨fun t x hx=>by simp [inS,lget] at hx,fun l c hl=>ln hk2 (l,c) (ai hl)⟩
 refine qZ hf hb (by rw [aB];exact hk4) (by rw [aZ,hV];rfl) ?_
 rw [h0,<-nD]
 obtain ⟨L0,hv,hL0,hvs,hW⟩:=o4 (E:=E) (K:=fun l=>lget (dlb (inL ar ls (ab _ a))) l≠none) (al:=dal (dE ent 0)) hv hbok.2
 refine cY hW ?_
 have hbase:Ext ⟨dE ent 0,(inS ar ls (ab _ a)).L,[],[]⟩ ⟨dE ent 0,L0,[],vs.map fun v=>(v,none)⟩:=by
  have hno:∀{l:Nat},(l,none) ∉ (vs.map fun v=>((v,none):Nat×Option Nat))->l ∉ vs:=fun {l} h hm=>h (List.mem_map.2 ⟨l,hm,rfl⟩)
  refine ⟨fun _ _=>rfl,fun l hl=>hvs l (hno (hl none)),fun l cs0 hl h0=>⟨cs0,?_,rfl,fun _ _=>rfl⟩⟩
  rw [<-h0];exact hvs l (hno hl)
 have hfin:∀s:St,Up ⟨dE ent 0,L0,[],vs.map fun v=>(v,none)⟩ s->s.ok->(match dres E.P s fn.results.toList with
   | some ds=>ot.leafK (keys ls) (inS ar ls (ab _ a)) ⟨[(0,dtup ds)],s.L,[0],s.dl⟩ some
   | none=>none)=some v->∃xs,xres E.P (dal s.al) (dlb s.L) fn.results.toList=some xs/\Weak E (fun l=>lget (dlb (inL ar ls (ab _ a))) l≠none) [(0,rtup xs)] (dlb s.L) (dal (ot.app v (inS ar ls (ab _ a))).al) (dlb (ot.app v (inS ar ls (ab _ a))).L):=by
  intro s hu hs hr
  split at hr
  ·rename_i ds hds
   obtain ⟨h1,h2⟩:=ou hs hds
   refine ⟨_,h1,?_⟩
   obtain ⟨w,hw,hr⟩:=iy hr
   simp at hr;subst hr
   have he:=hu _ hbase
   have:=(j7 (E:=E) (K:=fun l=>lget (dlb (inL ar ls (ab _ a))) l≠none) hw ⟨fun t ht=>?_,he.lb,he.ce⟩ ⟨fun t x hx=>?_,hs.2⟩ hbok (fun l hl=>?_) hE).1
   ·rw [<-wy];exact this
   ·simp only [List.mem_singleton] at ht
    simp [lget,inS,Ne.symm ht]
   ·simp only [lget] at hx
    split at hx
    ·simp at hx;subst hx
     exact AJ h2
    ·simp at hx
   ·have:hasL (dlb (inL ar ls (ab _ a))) l=true:=by simpa [hasL,Option.isSome_iff_ne_none] using hl
    rw [dj] at this
    unfold inL at this
    rw [show keys (mkL (kG ar ls (ab _ a)) ls (Sh.mks (kG ar ls (ab _ a)) ar (ab _ a)).2).1=keys ls from gw _ _ _] at this
    simpa using this
  ·simp at hr
 exact D_ok (s:=⟨dE ent 0,L0,[],vs.map fun v=>(v,none)⟩) hm hG hE (fun l hl=>by
   have:hasL (dlb (inL ar ls (ab _ a))) l=true:=by simpa [hasL,Option.isSome_iff_ne_none] using hl
   rw [dj] at this
   unfold inL at this
   rw [show keys (mkL (kG ar ls (ab _ a)) ls (Sh.mks (kG ar ls (ab _ a)) ar (ab _ a)).2).1=keys ls from gw _ _ _] at this
   simpa using this) c hv ⟨nE hent,hL0⟩
  (fun s' hu hok hr=>⟨trivial,hfin s' hu hok hr⟩) fun e s' hne hu hok hr=>by
   cases e with
   | ret=>exact ⟨trivial,hfin s' hu hok hr⟩
   | _=>simp at hr
theorem Fd {E:Env} {G:GTab} {C:CT E} (h0:E.on none none=E) (hm:E.P.follows .mixedOrders=true) (hG:E.G=gtPV G) (hE:GOK E) {f:FuncId} {fn:Func} {c:Code} (hf:E.P.funcs[f]?=some fn) (hb:fn.body=some c)
  {h:Hint} {ar:List Sh} {ls:List (Nat×LSh)} {ot:Tm} {vs:List Nat} (hk:Sh.kOKs ar=true/\(ls.all fun p=>p.2.kOK)=true/\qQ ot=true/\decide (ar.length<=fn.ntmps)=true) {a:HT (Sh.hss ar++hsL ls)} {v:ot.T} (hv:DI E G C fn.ntmps fn.results.toList c h ar ls ot a vs=some v) :
  dQ E f (DV.pvs (inA ar ls (ab _ a))) (dlb (inL ar ls (ab _ a))) fun x L=>x=(resV (ot.app v (inS ar ls (ab _ a)))).pv/\L=dlb (ot.app v (inS ar ls (ab _ a))).L:=by
 obtain ⟨hk1,hk2,hk3,hk4⟩:=hk
 simp only [decide_eq_true_eq] at hk4
 exact Id h0 hm hG hE hf hb hk2 hk3 (lH _ _ _ hk1) (by rw [n8];exact hk4) hv
end Go.SH
namespace Go.SH
variable [SentA]
def rlab:Nat:=50
def S0 (k:Nat):Bool:=noF k&&k !=rlab
def Oth (x:PV):Prop:=am S0 x=true\/∃c n co,x = .fs 2 c n co/\ag (fun _=>false) c=true
theorem Oth.ok {w:World} {σ σ':Sig} {av av':Nat->Prop} {x:PV} {v:Value} (h:VR w σ av x v) (ho:Oth x) (hσ:∀l,l≠rlab->σ' l=σ l) (hF:∀β add,σ.fam 2 β add->σ'.fam 2 β add) (hav:∀β,¬av β->¬av' β):VR w σ' av' x v:=by
 rcases ho with ho | ⟨c,n,co,rfl,hc⟩
 ·refine h.restrict (S:=S0) (fun l hl=>hσ l ?_) (fun h=>by simp [S0,noF] at h) hav ho
  simp only [S0,Bool.and_eq_true,bne_iff_ne] at hl
  exact hl.2
 ·cases h with
  | fsE a cap hc=>exact .fsE a cap hc
  | fs hf hh hfr hl hv hn hc' hz=>exact .fs (hF _ _ hf) hh hfr hl (fun i x v hx hv'=>(hv i x v hx hv').pure (az hc hx) hav) hn hc' hz
theorem VR.fs_inv {w:World} {σ:Sig} {av:Nat->Prop} {q n:Nat} {cells:List PV} {co:Option Nat} {v:Value} (h:VR w σ av (.fs q cells n co) v) (h0:0<n) :
  ∃β add cap c T fr,v = .slice (some ⟨β,add,none⟩) n cap/\σ.fam q β add/\w.heap[β]?=some (.cells c T fr)/\(fr.1=fr.2\/c.size<=fr.1)/\add+cells.length<=c.size /\
   (∀(i:Nat) (x:PV) (v:Value),cells[i]?=some x->c[add+i]?=some v->VR w σ av x v)/\n<=cap/\∀sz,0<n->cells.length=n*sz->add+cap*sz<=c.size:=by
 cases h with
 | fsE=>exact absurd rfl (Nat.ne_of_gt h0)
 | fs hf hh hfr hl hv hn hc hz=>exact ⟨_,_,_,_,_,_,rfl,hf,hh,hfr,hl,hv,hn,hz⟩
theorem VR.rw_inv {w:World} {σ:Sig} {av:Nat->Prop} {l off n sz:Nat} {co:Option Nat} {v:Value} (h:VR w σ av (.rw l off n sz co) v) (h0:0<n) :
  ∃β add size cap,v = .slice (some ⟨β,add+off,none⟩) n cap/\σ l=some (β,add,size)/\n<=cap/\add+off+cap*sz<=size:=by
 cases h with
 | rwE=>exact absurd rfl (Nat.ne_of_gt h0)
 | rw hs hn hc hsz=>exact ⟨_,_,_,_,rfl,hs,hn,hsz⟩
section
variable {E:Env} {K:Nat->Prop} {al:Al} {L:Lb} {T:ET}
theorem Cc (q:Nat) (l:List (List T.T)):fl (el (.tf q T)) l=l.map fun x=>PV.fs q (fl (el T) x) x.length none:=by
 induction l with
 | nil=>rfl
 | cons x l ih=>rw [cj,ih];rfl
def E7 (T:ET) (nn:Nat) (rows:List (List T.T)) (ds:List PV):Prop:=
 ds.length=rows.length/\∀(i:Nat) (l:List T.T),rows[i]?=some l->ds[i]?=some (.rw rlab 0 nn T.sz none)\/ds[i]?=some (.fs 1 (fl (el T) l) nn none)
theorem Gy {n:Nat} {c:Code} {Q:Exit->Al->Lb->Prop} (hE:GOK E) (hT:T.noF=true) {rows:List (List T.T)} (h1:lget L 1=some (some (fl (el (.tf 1 T)) rows))) (h50:lget L rlab=none\/lget L rlab=some none) (hK:¬K rlab) (hKf:¬K de)
  (hal:∀t x,lget al t=some x->Oth x) (hoth:∀k cells,k≠1->lget L k=some (some cells)->∀x∈cells,Oth x) {nn:Nat} (hnn:0<nn) (hn:∀l∈rows,l.length=nn) {r:Nat} {row:List T.T} (hr:rows[r]?=some row)
  (k:∀ds,E7 T nn rows ds->ds[r]?=some (.rw rlab 0 nn T.sz none)->AW E K n c Q al (lset (lset L 1 (some ds)) rlab (some (fl (el T) row)))):AW E K n c Q al L:=by
 classical
 intro A w σ a hrel ht
 have hbr:=hrel.blocks
 have hlen:∀{i:Nat} {l:List T.T},rows[i]?=some l->l.length=nn:=fun h=>hn _ (List.mem_of_getElem? h)
 have hcell:∀{i:Nat} {l:List T.T},rows[i]?=some l->(fl (el (.tf 1 T)) rows)[i]?=some (.fs 1 (fl (el T) l) nn none):=fun {i l} h=>by
  rw [Cc,List.getElem?_map,h];simp [hlen h]
 rcases hbr.all 1 _ h1 with ⟨h2,h3⟩ | ⟨β1,a1,s1,c1,T1,f1,hB⟩
 ·have:=hcell hr;rw [h3] at this;simp at this
 obtain ⟨vr,hvr1,hvr2⟩:=hB.vals r _ (hcell hr)
 have hfl:∀{l:List T.T},l.length=nn->(fl (el T) l).length=nn*T.sz:=fun h=>by rw [bD,jg,h]
 have hpos:0<nn*T.sz:=Nat.mul_pos hnn T.sz_pos
 obtain ⟨β,add,cap,cc,Tt,fr,rfl,hf,hh,hfr,hl,hv,hncap,hz⟩:=hvr2.fs_inv hnn
 ·skip
  let σ':Sig:=⟨fun k=>if k=rlab then some (β,add,cc.size) else σ k,fun q γ ad=>σ.fam q γ ad/\γ≠β⟩
  let P:Nat->Prop:=fun i=>∃ad cp,c1[a1+i]?=some (.slice (some ⟨β,ad,none⟩) nn cp)
  let ds:List PV:=(List.range rows.length).map fun i=>if P i then PV.rw rlab 0 nn T.sz none else .fs 1 (fl (el T) ((rows[i]?).getD [])) nn none
  have hdl:ds.length=rows.length:=by simp [ds]
  have hds:∀{i:Nat} {l:List T.T},rows[i]?=some l->ds[i]?=some (if P i then PV.rw rlab 0 nn T.sz none else .fs 1 (fl (el T) l) nn none):=fun {i l} h=>by
   have hi:=(List.getElem?_eq_some_iff.1 h).1
   simp [ds,List.getElem?_range hi,h]
  have hmix:E7 T nn rows ds:=⟨hdl,fun i l h=>by
   rw [hds h];by_cases hp:P i
   ·left;rw [if_pos hp]
   ·right;rw [if_neg hp]⟩
  have hdr:ds[r]?=some (.rw rlab 0 nn T.sz none):=by
   rw [hds hr,if_pos ⟨add,cap,hvr1⟩]
  suffices hs:Rel E A w σ' al (lset (lset L 1 (some ds)) rlab (some (fl (el T) row))) a/\Grow K w σ L w σ' (lset (lset L 1 (some ds)) rlab (some (fl (el T) row))) from
   wpIn_mono (k ds hmix hdr A w σ' a hs.1 ht) fun _ _ _ p=>Post.trans hs.2 p
  have hβ:vA σ β:=⟨1,add,hf⟩
  have hnl:¬cd σ L β:=(hbr.fr.fam 1 β add hf).2
  have hne1:(1:Nat)≠rlab:=by decide
  have hL':∀k,lget (lset (lset L 1 (some ds)) rlab (some (fl (el T) row))) k=if k=rlab then some (some (fl (el T) row)) else if k=1 then some (some ds) else lget L k:=fun k=>by
   rw [ao,ao]
   by_cases e:k=rlab
   ·simp [e]
   ·rw [if_neg (fun h=>e h.symm),if_neg e]
    by_cases e1:k=1
    ·simp [e1]
    ·rw [if_neg (fun h=>e1 h.symm),if_neg e1]
  have hσo:∀l,l≠rlab->σ' l=σ l:=fun l h=>by simp [σ',h]
  have hσr:σ' rlab=some (β,add,cc.size):=by simp [σ']
  have hlav:∀γ,cd σ' (lset (lset L 1 (some ds)) rlab (some (fl (el T) row))) γ<->(cd σ L γ\/γ=β):=by
   intro γ
   constructor
   ·rintro ⟨l,c,x,s,e1,e2⟩
    rw [hL'] at e1
    by_cases e:l=rlab
    ·subst e;rw [hσr] at e2;simp at e2;exact .inr e2.1.symm
    ·rw [if_neg e] at e1;rw [hσo l e] at e2
     by_cases e3:l=1
     ·subst e3;exact .inl ⟨1,_,x,s,h1,e2⟩
     ·rw [if_neg e3] at e1;exact .inl ⟨l,c,x,s,e1,e2⟩
   ·rintro (⟨l,c,x,s,e1,e2⟩ | rfl)
    ·have e:l≠rlab:=by rintro rfl;rcases h50 with h | h <;> rw [h] at e1 <;> simp at e1
     by_cases e3:l=1
     ·subst e3;exact ⟨1,ds,x,s,by rw [hL',if_neg e,if_pos rfl],by rw [hσo _ e];exact e2⟩
     ·exact ⟨l,c,x,s,by rw [hL',if_neg e,if_neg e3];exact e1,by rw [hσo _ e];exact e2⟩
    ·exact ⟨rlab,_,add,cc.size,by rw [hL',if_pos rfl],hσr⟩
  have hav:∀γ,avOf σ' (lset (lset L 1 (some ds)) rlab (some (fl (el T) row))) γ<->avOf σ L γ:=by
   intro γ
   constructor
   ·rintro (h | ⟨q,ad,h,_⟩)
    ·rcases (hlav γ).1 h with h | rfl
     ·exact .inl h
     ·exact .inr hβ
    ·exact .inr ⟨q,ad,h⟩
   ·rintro (h | ⟨q,ad,h⟩)
    ·exact .inl ((hlav γ).2 (.inl h))
    ·by_cases e:γ=β
     ·exact .inl ((hlav γ).2 (.inr e))
     ·exact .inr ⟨q,ad,h,e⟩
  have havo:∀γ,¬avo A σ L γ->¬avo A σ' (lset (lset L 1 (some ds)) rlab (some (fl (el T) row))) γ:=fun γ hn h=>hn (h.imp id (hav γ).1)
  have hf2:∀γ ad,σ.fam 2 γ ad->σ'.fam 2 γ ad:=fun γ ad h=>⟨h,fun e=>by subst e;have:=(hbr.fr.one 2 1 _ _ _ h hf).1;simp at this⟩
  refine ⟨?_,?_⟩
  ·-- the state
   refine ⟨fun t x hx=>?_,⟨?_,?_,?_,?_,?_⟩,fun g cells hg=>Env.pureG hE hg (hrel.globals g cells hg) havo,hrel.nodefer⟩
   ·obtain ⟨v,e1,e2⟩:=hrel.tmps t x hx
    exact ⟨v,e1,(hal t x hx).ok e2 hσo hf2 havo⟩
   ·intro l cells e1
    rw [hL'] at e1
    by_cases e:l=rlab
    ·subst e;simp at e1;subst e1
     refine .inr ⟨β,add,cc.size,cc,Tt,fr,⟨hσr,hh,rfl,hl,fun i x hx=>?_,hfr⟩⟩
     have hi:=(List.getElem?_eq_some_iff.1 hx).1
     have hci:add+i<cc.size:=by omega
     exact ⟨_,Array.getElem?_eq_getElem hci,(hv i x _ hx (Array.getElem?_eq_getElem hci)).pure (az (hY hT _) hx) havo⟩
    ·rw [if_neg e] at e1
     by_cases e3:l=1
     ·subst e3;simp at e1;subst e1
      refine .inr ⟨β1,a1,s1,c1,T1,f1,⟨by rw [hσo _ e];exact hB.sig,hB.heap,hB.hsz,?_,fun i x hx=>?_,hB.frs⟩⟩
      ·have:=hB.fits;rw [Cc,List.length_map] at this;rw [hdl];exact this
      ·have hi:i<rows.length:=by rw [<-hdl];exact (List.getElem?_eq_some_iff.1 hx).1
       have hri:=List.getElem?_eq_getElem hi
       rw [hds hri] at hx
       obtain ⟨v,e4,e5⟩:=hB.vals i _ (hcell hri)
       refine ⟨v,e4,?_⟩
       obtain ⟨β',add',cap',cc',Tt',fr',rfl,hf',hh',hfr',hl',hv',hn',hz'⟩:=e5.fs_inv hnn
       ·by_cases hp:P i
        ·rw [if_pos hp] at hx;simp at hx;subst hx
         obtain ⟨ad,cp,e6⟩:=hp
         rw [e4] at e6;simp at e6
         obtain ⟨⟨rfl,rfl⟩,rfl⟩:=e6
         have:=(hbr.fr.one _ _ _ _ _ hf' hf).2
         subst this
         rw [hh] at hh';simp at hh';obtain ⟨rfl,rfl,rfl⟩:=hh'
         exact .rw (off:=0) hσr hn' (by simp) (by have:=hz' T.sz hnn (hfl (hlen hri));omega)
        ·rw [if_neg hp] at hx;simp at hx;subst hx
         have hne:β'≠β:=fun e6=>hp ⟨add',cap',by rw [e4,e6]⟩
         exact .fs ⟨hf',hne⟩ hh' hfr' hl' (fun i x v hx hv2=>(hv' i x v hx hv2).pure (az (hY hT _) hx) havo) hn' (by simp) hz'
     ·rw [if_neg e3] at e1
      rcases hbr.all l cells e1 with ⟨e4,e5⟩ | ⟨γ,ad,s,c,TT,f,hB'⟩
      ·exact .inl ⟨by rw [hσo _ e];exact e4,e5⟩
      ·exact .inr ⟨γ,ad,s,c,TT,f,⟨by rw [hσo _ e];exact hB'.sig,hB'.heap,hB'.hsz,hB'.fits,fun i x hx=>let ⟨v,e4,e5⟩:=hB'.vals i x hx;⟨v,e4,(hoth l cells e3 e1 x (List.mem_of_getElem? hx)).ok e5 hσo hf2 havo⟩,hB'.frs⟩⟩
   ·have key:∀{l c γ x s},lget (lset (lset L 1 (some ds)) rlab (some (fl (el T) row))) l=some (some c)->σ' l=some (γ,x,s)->l≠rlab->∃c',lget L l=some (some c')/\σ l=some (γ,x,s):=by
     intro l c γ x s e1 e2 e
     rw [hL',if_neg e] at e1;rw [hσo l e] at e2
     by_cases e3:l=1
     ·subst e3;exact ⟨_,h1,e2⟩
     ·rw [if_neg e3] at e1;exact ⟨_,e1,e2⟩
    have keyr:∀{l c γ x s},lget (lset (lset L 1 (some ds)) rlab (some (fl (el T) row))) l=some (some c)->σ' l=some (γ,x,s)->l≠rlab->γ≠β:=by
     rintro l c γ x s e1 e2 e rfl
     obtain ⟨c',e3,e4⟩:=key e1 e2 e
     exact hnl ⟨l,c',x,s,e3,e4⟩
    intro l l' c c' γ x s x' s' e1 e2 e3 e4
    by_cases d1:l=rlab
    ·by_cases d2:l'=rlab
     ·rw [d1,d2]
     ·subst d1;rw [hσr] at e3;simp at e3
      exact absurd e3.1.symm (keyr e2 e4 d2)
    ·by_cases d2:l'=rlab
     ·subst d2;rw [hσr] at e4;simp at e4
      exact absurd e4.1.symm (keyr e1 e3 d1)
     ·obtain ⟨_,k1,k2⟩:=key e1 e3 d1
      obtain ⟨_,k3,k4⟩:=key e2 e4 d2
      exact hbr.inj l l' _ _ γ x s x' s' k1 k3 k2 k4
   ·intro l x hx
    rw [hL']
    by_cases e:l=rlab
    ·simp [e]
    ·rw [if_neg e];rw [hσo l e] at hx
     by_cases e3:l=1
     ·simp [e3]
     ·rw [if_neg e3];exact hbr.dom l x hx
   ·intro γ hA
    exact ⟨(hbr.lo γ hA).1,fun h=>(hbr.lo γ hA).2 ((hav γ).1 h)⟩
   ·refine ⟨fun q γ ad h=>⟨(hbr.fr.fam q γ ad h.1).1,fun h2=>?_⟩,fun q γ ad h=>hbr.fr.cel q γ ad h.1,fun q q' γ ad ad' h h'=>hbr.fr.one q q' γ ad ad' h.1 h'.1⟩
    rcases (hlav γ).1 h2 with h2 | h2
    ·exact (hbr.fr.fam q γ ad h.1).2 h2
    ·exact h.2 h2
  ·refine ⟨Nat.le_refl _,fun l y hk hy=>?_,fun γ hb hn=>⟨fun h=>hn ((hav γ).1 h),rfl⟩,⟨rfl,rfl,rfl⟩,fun h=>absurd h hKf⟩
   have e:l≠rlab:=by rintro rfl;exact hK hk
   rw [hσo l e];exact hy
theorem IK (hE:GOK E) (hT:T.noF=true) {ds:List PV} {nn:Nat} {rows:List (List T.T)} (hm:E7 T nn rows ds) (h1:lget L 1=some (some ds)) {cont:List T.T} (h50:lget L rlab=some (some (fl (el T) cont))) (hK:¬K rlab) (hKf:¬K de)
  (hal:∀t x,lget al t=some x->Oth x) (hoth:∀k cells,k≠1->k≠rlab->lget L k=some (some cells)->∀x∈cells,Oth x) (hnn:0<nn) (hn:∀l∈rows,l.length=nn) (hcn:cont.length=nn)
  {rows':List (List T.T)} (hr1:rows'.length=rows.length) (hr2:∀(i:Nat) (l l':List T.T),rows[i]?=some l->rows'[i]?=some l'->(ds[i]?=some (.rw rlab 0 nn T.sz none)/\l'=cont)\/(ds[i]?=some (.fs 1 (fl (el T) l) nn none)/\l'=l)) :
  Weak E K al L al (lset (lset L 1 (some (fl (el (.tf 1 T)) rows'))) rlab none):=by
 intro A w σ a hrel
 have hbr:=hrel.blocks
 have hpos:0<nn*T.sz:=Nat.mul_pos hnn T.sz_pos
 have hfc:(fl (el T) cont).length=nn*T.sz:=by rw [bD,jg,hcn]
 rcases hbr.all rlab _ h50 with ⟨_,h3⟩ | ⟨β,add,size,cc,Tt,fr,hB⟩
 ·rw [h3] at hfc;simp at hfc;omega
 let σ':Sig:=⟨fun k=>if k=rlab then none else σ k,fun q γ ad=>σ.fam q γ ad\/(q=1/\γ=β/\ad=add)⟩
 have hsg:=hB.sig
 have hlβ:cd σ L β:=⟨rlab,_,add,size,h50,hsg⟩
 have hnf:∀q ad,¬σ.fam q β ad:=fun q ad h=>(hbr.fr.fam q β ad h).2 hlβ
 have hL':∀k,lget (lset (lset L 1 (some (fl (el (.tf 1 T)) rows'))) rlab none) k=if k=rlab then some none else if k=1 then some (some (fl (el (.tf 1 T)) rows')) else lget L k:=fun k=>by
  rw [ao,ao]
  by_cases e:k=rlab
  ·simp [e]
  ·rw [if_neg (fun h=>e h.symm),if_neg e]
   by_cases e1:k=1
   ·simp [e1]
   ·rw [if_neg (fun h=>e1 h.symm),if_neg e1]
 have hσo:∀l,l≠rlab->σ' l=σ l:=fun l h=>by simp [σ',h]
 have hlav:∀γ,cd σ' (lset (lset L 1 (some (fl (el (.tf 1 T)) rows'))) rlab none) γ<->(cd σ L γ/\γ≠β):=by
  intro γ
  constructor
  ·rintro ⟨l,c,x,s,e1,e2⟩
   rw [hL'] at e1
   by_cases e:l=rlab
   ·subst e;simp at e1
   ·rw [if_neg e] at e1;rw [hσo l e] at e2
    have hne:∀c',lget L l=some (some c')->γ≠β:=by
     rintro c' e3 rfl
     exact e (hbr.inj l rlab _ _ _ x s add size e3 h50 e2 hsg)
    by_cases e3:l=1
    ·subst e3;exact ⟨⟨1,_,x,s,h1,e2⟩,hne _ h1⟩
    ·rw [if_neg e3] at e1;exact ⟨⟨l,c,x,s,e1,e2⟩,hne _ e1⟩
  ·rintro ⟨⟨l,c,x,s,e1,e2⟩,hne⟩
   have e:l≠rlab:=by rintro rfl;rw [hsg] at e2;simp at e2;exact hne e2.1.symm
   by_cases e3:l=1
   ·subst e3;exact ⟨1,_,x,s,by rw [hL',if_neg e,if_pos rfl],by rw [hσo _ e];exact e2⟩
   ·exact ⟨l,c,x,s,by rw [hL',if_neg e,if_neg e3];exact e1,by rw [hσo _ e];exact e2⟩
 have hav:∀γ,avOf σ' (lset (lset L 1 (some (fl (el (.tf 1 T)) rows'))) rlab none) γ<->avOf σ L γ:=by
  intro γ
  constructor
  ·rintro (h | ⟨q,ad,h | ⟨_,rfl,_⟩⟩)
   ·exact .inl ((hlav γ).1 h).1
   ·exact .inr ⟨q,ad,h⟩
   ·exact .inl hlβ
  ·rintro (h | ⟨q,ad,h⟩)
   ·by_cases e:γ=β
    ·exact .inr ⟨1,add,.inr ⟨rfl,e,rfl⟩⟩
    ·exact .inl ((hlav γ).2 ⟨h,e⟩)
   ·exact .inr ⟨q,ad,.inl h⟩
 have havo:∀γ,¬avo A σ L γ->¬avo A σ' (lset (lset L 1 (some (fl (el (.tf 1 T)) rows'))) rlab none) γ:=fun γ hn h=>hn (h.imp id (hav γ).1)
 have hf2:∀γ ad,σ.fam 2 γ ad->σ'.fam 2 γ ad:=fun γ ad h=>.inl h
 refine ⟨σ',⟨fun t x hx=>?_,⟨?_,?_,?_,?_,?_⟩,fun g cells hg=>Env.pureG hE hg (hrel.globals g cells hg) havo,hrel.nodefer⟩,⟨Nat.le_refl _,fun l y hk hy=>?_,fun γ hb hn=>⟨fun h=>hn ((hav γ).1 h),rfl⟩,⟨rfl,rfl,rfl⟩,fun h=>absurd h hKf⟩⟩
 ·obtain ⟨v,e1,e2⟩:=hrel.tmps t x hx
  exact ⟨v,e1,(hal t x hx).ok e2 hσo hf2 havo⟩
 ·intro l cells e1
  rw [hL'] at e1
  by_cases e:l=rlab
  ·subst e;simp at e1
  ·rw [if_neg e] at e1
   by_cases e3:l=1
   ·subst e3;simp at e1;subst e1
    rcases hbr.all 1 _ h1 with ⟨h2,h3⟩ | ⟨β1,a1,s1,c1,T1,f1,hB1⟩
    ·refine .inl ⟨by rw [hσo _ e];exact h2,?_⟩
     have:=hm.1;rw [h3] at this;simp at this
     have:rows'=[]:=List.eq_nil_of_length_eq_zero (by rw [hr1];exact this.symm)
     subst this;rfl
    ·refine .inr ⟨β1,a1,s1,c1,T1,f1,⟨by rw [hσo _ e];exact hB1.sig,hB1.heap,hB1.hsz,?_,fun i x hx=>?_,hB1.frs⟩⟩
     ·have:=hB1.fits;rw [hm.1] at this;rw [Cc,List.length_map,hr1];exact this
     ·rw [Cc,List.getElem?_map] at hx
      cases hl':rows'[i]? with
      | none=>rw [hl'] at hx;simp at hx
      | some l'=>
       rw [hl'] at hx;simp at hx;subst hx
       have hi:i<rows.length:=by rw [<-hr1];exact (List.getElem?_eq_some_iff.1 hl').1
       have hri:=List.getElem?_eq_getElem hi
       rcases hr2 i _ l' hri hl' with ⟨h4,rfl⟩ | ⟨h4,rfl⟩
       ·obtain ⟨v,e4,e5⟩:=hB1.vals i _ h4
        obtain ⟨β2,add2,size2,cap,rfl,h5,h6,h7⟩:=e5.rw_inv hnn
        rw [hsg] at h5;simp at h5;obtain ⟨rfl,rfl,rfl⟩:=h5
        refine ⟨_,e4,?_⟩
        rw [hcn]
        refine .fs (c:=cc) (T:=Tt) (fr:=fr) (.inr ⟨rfl,rfl,rfl⟩) hB.heap (by rw [hB.hsz];exact hB.frs) (by have:=hB.fits;rw [hB.hsz];simpa using this) (fun i x v hx hv=>?_) h6 (by simp) (fun sz' _ hsz'=>?_)
        ·obtain ⟨u,h8,h9⟩:=hB.vals i x hx
         simp only [Nat.add_zero] at hv
         rw [h8] at hv;simp at hv;subst hv
         exact h9.pure (az (hY hT _) hx) havo
        ·rw [hfc] at hsz'
         have:T.sz=sz':=Nat.eq_of_mul_eq_mul_left hnn hsz'
         subst this;rw [hB.hsz];exact h7
       ·obtain ⟨v,e4,e5⟩:=hB1.vals i _ h4
        refine ⟨v,e4,?_⟩
        rw [hn _ (List.mem_of_getElem? hri)]
        obtain ⟨β2,add2,cap2,cc2,Tt2,fr2,rfl,hf',hh',hfr',hl2,hv',hn',hz'⟩:=e5.fs_inv hnn
        exact .fs (.inl hf') hh' hfr' hl2 (fun i x v hx hv2=>(hv' i x v hx hv2).pure (az (hY hT _) hx) havo) hn' (by simp) hz'
   ·rw [if_neg e3] at e1
    rcases hbr.all l cells e1 with ⟨e4,e5⟩ | ⟨γ,ad,s,c,TT,f,hB'⟩
    ·exact .inl ⟨by rw [hσo _ e];exact e4,e5⟩
    ·exact .inr ⟨γ,ad,s,c,TT,f,⟨by rw [hσo _ e];exact hB'.sig,hB'.heap,hB'.hsz,hB'.fits,fun i x hx=>let ⟨v,e4,e5⟩:=hB'.vals i x hx;⟨v,e4,(hoth l cells e3 e e1 x (List.mem_of_getElem? hx)).ok e5 hσo hf2 havo⟩,hB'.frs⟩⟩
 ·have key:∀{l c γ x s},lget (lset (lset L 1 (some (fl (el (.tf 1 T)) rows'))) rlab none) l=some (some c)->σ' l=some (γ,x,s)->∃c',lget L l=some (some c')/\σ l=some (γ,x,s):=by
   intro l c γ x s e1 e2
   rw [hL'] at e1
   by_cases e:l=rlab
   ·subst e;simp at e1
   ·rw [if_neg e] at e1;rw [hσo l e] at e2
    by_cases e3:l=1
    ·subst e3;exact ⟨_,h1,e2⟩
    ·rw [if_neg e3] at e1;exact ⟨_,e1,e2⟩
  intro l l' c c' γ x s x' s' e1 e2 e3 e4
  obtain ⟨_,k1,k2⟩:=key e1 e3
  obtain ⟨_,k3,k4⟩:=key e2 e4
  exact hbr.inj l l' _ _ γ x s x' s' k1 k3 k2 k4
 ·intro l x hx
  rw [hL']
  by_cases e:l=rlab
  ·simp [e]
  ·rw [if_neg e];rw [hσo l e] at hx
   by_cases e3:l=1
   ·simp [e3]
   ·rw [if_neg e3];exact hbr.dom l x hx
 ·intro γ hA
  exact ⟨(hbr.lo γ hA).1,fun h=>(hbr.lo γ hA).2 ((hav γ).1 h)⟩
 ·refine ⟨?_,?_,?_⟩
  ·rintro q γ ad (h | ⟨rfl,rfl,rfl⟩)
   ·exact ⟨(hbr.fr.fam q γ ad h).1,fun h2=>(hbr.fr.fam q γ ad h).2 ((hlav γ).1 h2).1⟩
   ·exact ⟨(Array.getElem?_eq_some_iff.1 hB.heap).1,fun h2=>((hlav _).1 h2).2 rfl⟩
  ·rintro q γ ad (h | ⟨rfl,rfl,rfl⟩)
   ·exact hbr.fr.cel q γ ad h
   ·exact ⟨_,_,_,hB.heap⟩
  ·rintro q q' γ ad ad' (h | ⟨rfl,rfl,rfl⟩) (h' | ⟨rfl,h7,rfl⟩)
   ·exact hbr.fr.one q q' γ ad ad' h h'
   ·subst h7;exact (hnf q ad h).elim
   ·exact (hnf q' ad' h').elim
   ·exact ⟨rfl,rfl⟩
 ·have e:l≠rlab:=by rintro rfl;exact hK hk
  rw [hσo l e];exact hy
end
end Go.SH
namespace Go.SH
variable [SentA]
theorem qg {α:Type} {k:Nat} {y:α}:∀{L:List (Nat×α)} (M:List (Nat×α)),lget L k=none->lset (L++M) k y=L++lset M k y
 | [],M,_=>rfl
 | (j,x)::r,M,h=>by
  simp only [lget] at h
  split at h
  ·simp at h
  ·rename_i e
   simp only [List.cons_append,lset,if_neg e]
   rw [qg M h]
theorem FA {T:ET} {nn:Nat} {rows:List (List T.T)} {ds:List PV} (hm:E7 T nn rows ds) (hn:∀l∈rows,l.length=nn):∃dds,ds=DV.pvs dds/\DV.oks dds:=by
 have key:∀ds:List PV,(∀x∈ds,∃d:DV,d.pv=x/\d.ok)->∃dds,ds=DV.pvs dds/\DV.oks dds:=by
  intro ds
  induction ds with
  | nil=>intro _;exact ⟨[],rfl,trivial⟩
  | cons x r ih=>
   intro h
   obtain ⟨d,rfl,hd⟩:=h x (by simp)
   obtain ⟨e,rfl,he⟩:=ih fun y hy=>h y (by simp [hy])
   exact ⟨d::e,rfl,hd,he⟩
 refine key ds fun x hx=>?_
 obtain ⟨i,hi⟩:=List.getElem?_of_mem hx
 have hl:i<rows.length:=by rw [<-hm.1];exact (List.getElem?_eq_some_iff.1 hi).1
 have hr:=List.getElem?_eq_getElem hl
 rcases hm.2 i _ hr with h | h
 ·rw [hi] at h;simp at h;subst h
  exact ⟨.rw rlab T.sz 0 nn none true,by simp [DV.pv],trivial⟩
 ·rw [hi] at h;simp at h;subst h
  exact ⟨.fsl 1 T rows[i],by simp [DV.pv,hn _ (List.getElem_mem hl)],trivial⟩
section
variable {E:Env} {K:Nat->Prop} {n:Nat} {T:ET}
def alA (N:Nat) (r:Int):Al:=[(9,.rw 1 0 N 1 none),(10,.int .i64 N),(11,.int .i64 r),(0,.ptr 0 0)]
def lF (c0:List PV) (Lr:Lb) (rows:List (List T.T)) (tl:Lb):Lb:=(0,some c0)::(1,some (fl (el (.tf 1 T)) rows))::(Lr++tl)
def lM (c0:List PV) (Lr:Lb) (ds:List PV) (cont:List T.T):Lb:=(0,some c0)::(1,some ds)::(Lr++[(rlab,some (fl (el T) cont))])
theorem E3 {N:Nat} {r:Int} (t:Nat) (x:PV) (h:lget (alA N r) t=some x):Oth x:=by
 left
 simp only [alA,lget] at h
 split at h
 ·simp at h;subst h;rfl
 ·split at h
  ·simp at h;subst h;rfl
  ·split at h
   ·simp at h;subst h;rfl
   ·split at h
    ·simp at h;subst h;rfl
    ·simp at h
theorem Ft (hE:GOK E) (hT:T.noF=true) (hK:¬K rlab) (hKf:¬K de) {N nn:Nat} (hnn:0<nn) {c0:List PV} {Lr:Lb} (hc0:∀x∈c0,Oth x) (hLr:∀k cells,lget Lr k=some (some cells)->∀x∈cells,Oth x)
  (hk1:lget Lr 1=none) (hk50:lget Lr rlab=none) {ec:T.T} {r1 r2 c3 r8:Code} {j0 j1:Nat}
  (h1:∀(r:Int) (rows:List (List T.T)) (tl:Lb),(tl=[]\/tl=[(rlab,none)])->AW E K n r1 (fun e al L=>e = .normal/\Weak E K al L ((12,.bool (decide (r<N)))::alA N r) (lF c0 Lr rows tl)) (alA N r) (lF c0 Lr rows tl))
  (h8:∀(r:Int) (rows:List (List T.T)) (tl:Lb),(tl=[]\/tl=[(rlab,none)])->0<=r->r<N->AW E K n r8 (fun e al L=>e = .normal/\Weak E K al L (alA N (r+1)) (lF c0 Lr rows tl)) (alA N r) (lF c0 Lr rows tl))
  (h2:∀(r:Nat) (ds:List PV) (cont:List T.T),ds.length=N->ds[r]?=some (.rw rlab 0 nn T.sz none)->AW E K n r2 (fun e al L=>e = .normal/\Weak E K al L ((3,.rw rlab 0 nn T.sz none)::alA N r) (lM c0 Lr ds cont)) (alA N r) (lM c0 Lr ds cont))
  (h3:∀(r:Int) (ds:List PV) (cont:List T.T),(∃dds,ds=DV.pvs dds/\DV.oks dds)->ds.length=N->cont.length=nn->AW E K n c3 (fun e al L=>e = .normal/\Weak E K al L (alA N r) (lM c0 Lr ds (List.replicate nn ec))) ((3,.rw rlab 0 nn T.sz none)::alA N r) (lM c0 Lr ds cont))
  {rows:List (List T.T)} (hN:rows.length=N) (hn:∀l∈rows,l.length=nn) :
  AW E K n (.block j0 (.loop (.seq r1 (.seq (.cond (.tmp 12) .skip (.exit j0)) (.seq (.block j1 (.seq r2 c3)) r8))))) (fun e al L=>e = .normal/\∃r tl,(tl=[]\/tl=[(rlab,none)])/\Weak E K al L (alA N r) (lF c0 Lr (List.replicate N (List.replicate nn ec)) tl)) (alA N 0) (lF c0 Lr rows []):=by
 classical
 let Qf:Exit->Al->Lb->Prop:=fun e al L=>e = .normal/\∃r tl,(tl=[]\/tl=[(rlab,none)])/\Weak E K al L (alA N r) (lF c0 Lr (List.replicate N (List.replicate nn ec)) tl)
 let I:Al->Lb->Prop:=fun al L=>∃(r:Nat) (rows:List (List T.T)) (tl:Lb),(tl=[]\/tl=[(rlab,none)])/\r<=N/\rows.length=N/\(∀l∈rows,l.length=nn)/\(∀i,i<r->rows[i]?=some (List.replicate nn ec))/\al=alA N r/\L=lF c0 Lr rows tl
 let μ:Al->Lb->Nat:=fun al L=>match lget al 11 with
  | some (.int _ k)=>((N:Int)-k).toNat
  | _=>0
 refine jL (Fe I μ ⟨0,rows,[],.inl rfl,Nat.zero_le _,hN,hn,fun i hi=>absurd hi (Nat.not_lt_zero _),rfl,rfl⟩ ?_)
 rintro al L ⟨r,rows,tl,htl,hrN,hN,hn,hdone,rfl,rfl⟩
 have hμ:μ (alA N r) (lF c0 Lr rows tl)=((N:Int)-r).toNat:=rfl
 rw [hμ]
 have ne1:(1:Nat)≠rlab:=by decide
 have hFget:∀k (tl:Lb),lget (lF c0 Lr rows tl) k=if 0=k then some (some c0) else if 1=k then some (some (fl (el (.tf 1 T)) rows)) else lget (Lr++tl) k:=fun k tl=>rfl
 refine cK ((h1 r rows tl htl).mono ?_)
 rintro e al L ⟨rfl,hw⟩
 refine cY hw (cK (tX (b:=decide ((r:Int)<N)) (by simp [lget]) (fun hb=>qz ?_) fun hb=>wD ?_))
 ·have hlt:r<N:=by simpa using hb
  refine cY (Weak.sub (al':=alA N r) fun p hp=>by
   simp only [alA,List.mem_cons,List.not_mem_nil,or_false] at hp
   rcases hp with rfl | rfl | rfl | rfl <;> rfl) ?_
  obtain ⟨row,hrow⟩:∃row,rows[r]?=some row:=⟨rows[r]'(by omega),List.getElem?_eq_getElem (by omega)⟩
  refine Gy hE hT (rows:=rows) rfl ?_ hK hKf E3 ?_ hnn hn hrow fun ds hmix hdr=>?_
  ·rw [hFget,if_neg (by decide),if_neg (by decide),dH,hk50]
   rcases htl with rfl | rfl
   ·exact .inl rfl
   ·exact .inr rfl
  ·intro k cells hk hc x hx
   rw [hFget] at hc
   by_cases e0:0=k
   ·rw [if_pos e0] at hc;simp at hc;subst hc;exact hc0 x hx
   ·rw [if_neg e0,if_neg (fun h=>hk h.symm),dH] at hc
    cases hq:lget Lr k with
    | some y=>rw [hq] at hc;simp at hc;subst hc;exact hLr k cells hq x hx
    | none=>
     rw [hq] at hc
     rcases htl with rfl | rfl
     ·simp [lget] at hc
     ·simp only [lget] at hc
      split at hc <;> simp at hc
  have hset:lset (lset (lF c0 Lr rows tl) 1 (some ds)) rlab (some (fl (el T) row))=lM c0 Lr ds row:=by
   have e1:lset (lF c0 Lr rows tl) 1 (some ds)=((0,some c0)::(1,some ds)::Lr)++tl:=rfl
   have e2:lget ((0,some c0)::(1,some ds)::Lr) rlab=none:=by
    simp only [lget];rw [if_neg (by decide),if_neg (by decide)];exact hk50
   rw [e1,qg _ e2]
   rcases htl with rfl | rfl
   ·rfl
   ·rfl
  rw [hset]
  have hdl:ds.length=N:=by rw [hmix.1,hN]
  refine cK (jL (cK ((h2 r ds row hdl hdr).mono ?_)))
  rintro e al L ⟨rfl,hw2⟩
  refine cY hw2 ((h3 r ds row (FA hmix hn) hdl (hn _ (List.mem_of_getElem? hrow))).mono ?_)
  rintro e al L ⟨rfl,hw3⟩
  show AW E K n r8 _ al L
  let rows':List (List T.T):=(List.range N).map fun i=>if ds[i]?=some (.rw rlab 0 nn T.sz none) then List.replicate nn ec else (rows[i]?).getD []
  have hr':∀{i:Nat} {l:List T.T},rows[i]?=some l->rows'[i]?=some (if ds[i]?=some (.rw rlab 0 nn T.sz none) then List.replicate nn ec else l):=fun {i l} h=>by
   have hi:i<N:=by rw [<-hN];exact (List.getElem?_eq_some_iff.1 h).1
   simp [rows',List.getElem?_range hi,h]
  have hr'l:rows'.length=rows.length:=by simp [rows',hN]
  have hput:=IK (E:=E) (K:=K) (al:=alA N r) (L:=lM c0 Lr ds (List.replicate nn ec)) hE hT hmix rfl (cont:=List.replicate nn ec) (by
    show lget _ rlab=_
    simp only [lM,lget];rw [if_neg (by decide),if_neg (by decide),dH,hk50];simp [lget]) hK hKf E3 (by
    intro k cells hk hk' hc x hx
    simp only [lM,lget] at hc
    by_cases e0:0=k
    ·rw [if_pos e0] at hc;simp at hc;subst hc;exact hc0 x hx
    ·rw [if_neg e0,if_neg (fun h=>hk h.symm),dH] at hc
     cases hq:lget Lr k with
     | some y=>rw [hq] at hc;simp at hc;subst hc;exact hLr k cells hq x hx
     | none=>rw [hq] at hc;simp only [lget] at hc;rw [if_neg (fun h=>hk' h.symm)] at hc;simp at hc) hnn hn (by simp) hr'l (fun i l l' hl hl'=>by
    rw [hr' hl] at hl'
    by_cases hp:ds[i]?=some (.rw rlab 0 nn T.sz none)
    ·rw [if_pos hp] at hl';simp at hl';exact .inl ⟨hp,hl'.symm⟩
    ·rw [if_neg hp] at hl';simp at hl'
     rcases hmix.2 i l hl with h | h
     ·exact absurd h hp
     ·exact .inr ⟨h,hl'.symm⟩)
  have hset2:lset (lset (lM c0 Lr ds (List.replicate nn ec)) 1 (some (fl (el (.tf 1 T)) rows'))) rlab none=lF c0 Lr rows' [(rlab,none)]:=by
   have e1:lset (lM c0 Lr ds (List.replicate nn ec)) 1 (some (fl (el (.tf 1 T)) rows'))=((0,some c0)::(1,some (fl (el (.tf 1 T)) rows'))::Lr)++[(rlab,some (fl (el T) (List.replicate nn ec)))]:=rfl
   have e2:lget ((0,some c0)::(1,some (fl (el (.tf 1 T)) rows'))::Lr) rlab=none:=by
    simp only [lget];rw [if_neg (by decide),if_neg (by decide)];exact hk50
   rw [e1,qg _ e2];rfl
  rw [hset2] at hput
  refine cY (hw3.trans hput) (qA (h8 r rows' [(rlab,none)] (.inr rfl) (by omega) (by omega)) ?_)
  rintro e al L ⟨rfl,hw8⟩
  refine ⟨_,_,hw8,⟨r+1,rows',[(rlab,none)],.inr rfl,by omega,by rw [hr'l,hN],fun l hl=>?_,fun i hi=>?_,by simp,rfl⟩,?_⟩
  ·obtain ⟨i,hi⟩:=List.getElem?_of_mem hl
   have hi2:i<rows.length:=by rw [<-hr'l];exact (List.getElem?_eq_some_iff.1 hi).1
   rw [hr' (List.getElem?_eq_getElem hi2)] at hi
   simp at hi
   split at hi
   ·rw [<-hi];simp
   ·rw [<-hi];exact hn _ (List.getElem_mem _)
  ·have hi2:i<rows.length:=by omega
   rw [hr' (List.getElem?_eq_getElem hi2)]
   by_cases hp:ds[i]?=some (.rw rlab 0 nn T.sz none)
   ·rw [if_pos hp]
   ·rw [if_neg hp]
    have:i<r:=by
     rcases Nat.lt_succ_iff_lt_or_eq.1 hi with h | h
     ·exact h
     ·subst h;exact absurd hdr hp
    have:=hdone i this
    rw [List.getElem?_eq_getElem hi2] at this
    exact this
  ·show ((N:Int)-((r:Int)+1)).toNat<((N:Int)-r).toNat
   omega
 ·have hge:r=N:=by
   have:¬r<N:=by simpa using hb
   omega
  subst hge
  have:rows=List.replicate r (List.replicate nn ec):=by
   refine List.ext_getElem? fun i=>?_
   by_cases hi:i<r
   ·rw [hdone i hi,List.getElem?_replicate,if_pos hi]
   ·rw [List.getElem?_eq_none (by omega),List.getElem?_replicate,if_neg hi]
  show pW j0 Qf (.exit j0) _ _
  simp only [pW,if_pos]
  refine ⟨rfl,r,tl,htl,?_⟩
  rw [<-this]
  exact Weak.sub fun p hp=>by
   simp only [alA,List.mem_cons,List.not_mem_nil,or_false] at hp
   rcases hp with rfl | rfl | rfl | rfl <;> rfl
end
end Go.SH
namespace Go.SH
variable [SentA]
def al4 (N:Nat) (a b:Int):Al:=[(9,.rw 1 0 N 1 none),(10,.int .i64 a),(11,.int .i64 b),(0,.ptr 0 0)]
def pS (al:DAl):Option (Nat×Int×Int):=match lget al 9 with
 | some (.rw 1 1 0 n none _)=>match lget al 10 with
  | some (.int .i64 a)=>match lget al 11 with
   | some (.int .i64 b)=>match lget al 0 with
    | some (.ptr 0 0)=>some (n,a,b)
    | _=>none
   | _=>none
  | _=>none
 | _=>none
theorem LO {al:DAl} {N:Nat} {a b:Int} (h:pS al=some (N,a,b)):lget al 9=some (.rw 1 1 0 N none true)\/lget al 9=some (.rw 1 1 0 N none false):=by
 unfold pS at h
 split at h
 ·rename_i n w h9
  split at h
  ·split at h
   ·split at h
    ·simp at h;obtain ⟨rfl,rfl,rfl⟩:=h
     cases w
     ·exact .inr h9
     ·exact .inl h9
    ·simp at h
   ·simp at h
  ·simp at h
 ·simp at h
theorem Df {al:DAl} {N:Nat} {a b:Int} (h:pS al=some (N,a,b)):∀p∈al4 N a b,lget (dal al) p.1=some p.2:=by
 have h9:lget (dal al) 9=some (.rw 1 0 N 1 none):=by
  rcases LO h with h | h <;> rw [aZ,h] <;> rfl
 unfold pS at h
 split at h
 ·split at h
  ·rename_i a' h10
   split at h
   ·rename_i b' h11
    split at h
    ·rename_i h0
     simp at h;obtain ⟨rfl,rfl,rfl⟩:=h
     intro p hp
     simp only [al4,List.mem_cons,List.not_mem_nil,or_false] at hp
     rcases hp with rfl | rfl | rfl | rfl
     ·exact h9
     ·rw [aZ,h10];rfl
     ·rw [aZ,h11];rfl
     ·rw [aZ,h0];rfl
    ·simp at h
   ·simp at h
  ·simp at h
 ·simp at h
def pA (s:St):Option (Nat×Int×Int):=match s.dl with
 | []=>pS s.al
 | _=>none
def pB (s:St):Option ((Nat×Int×Int)×Bool):=match s.dl with
 | []=>match lget s.al 12 with
  | some (.bool q)=>match pS s.al with
   | some x=>some (x,q)
   | none=>none
  | _=>none
 | _=>none
section
variable {E:Env} {K:Nat->Prop} {n:Nat} {G:GTab} {C:CT E} {ks:List Nat}
theorem Ak {s s':St} (hu:Up s s') (hd:s'.dl=[]):∀l,lget (dlb s.L) l=lget (dlb s'.L) l:=by
 intro l
 rw [an,an,(hu s (.refl s)).lb l (by simp [hd])]
theorem GX (hm:E.P.follows .mixedOrders=true) (hG:E.G=gtPV G) (hE:GOK E) (hK:∀l,K l->l∈ks) {c:Code} {h:Hint} {s:St} {N:Nat} {a b:Int} (hr:D E G C n c h _ ks s pA (fun _ _=>none)=some (N,a,b)) (hs:s.ok) :
  AW E K n c (fun e al L=>e = .normal/\Weak E K al L (al4 N a b) (dlb s.L)) (dal s.al) (dlb s.L):=by
 refine D_ok hm hG hE hK c hr hs (fun s' hu _ hp=>⟨rfl,?_⟩) (fun _ _ _ _ _ h=>by simp at h)
 unfold pA at hp
 split at hp
 ·rename_i hd
  exact (Weak.sub (Df hp)).trans (Weak.eqL (Ak hu hd))
 ·simp at hp
theorem Kq (hm:E.P.follows .mixedOrders=true) (hG:E.G=gtPV G) (hE:GOK E) (hK:∀l,K l->l∈ks) {c:Code} {h:Hint} {s:St} {N:Nat} {a b:Int} {q:Bool} (hr:D E G C n c h _ ks s pB (fun _ _=>none)=some ((N,a,b),q)) (hs:s.ok) :
  AW E K n c (fun e al L=>e = .normal/\Weak E K al L ((12,.bool q)::al4 N a b) (dlb s.L)) (dal s.al) (dlb s.L):=by
 refine D_ok hm hG hE hK c hr hs (fun s' hu _ hp=>⟨rfl,?_⟩) (fun _ _ _ _ _ h=>by simp at h)
 unfold pB at hp
 split at hp
 ·rename_i hd
  split at hp
  ·rename_i q' hq
   split at hp
   ·rename_i x hx
    simp at hp;obtain ⟨rfl,rfl⟩:=hp
    refine (Weak.sub fun p h1=>?_).trans (Weak.eqL (Ak hu hd))
    rcases List.mem_cons.1 h1 with rfl | h1
    ·rw [aZ,hq];rfl
    ·exact Df hx p h1
   ·simp at hp
  ·simp at hp
 ·simp at hp
end
def rz {α:Type} (rows:List (List α)) (nn:Nat):Bool:=decide (0<nn)&&decide (nn<=1000)&&decide (rows.length<=1000)&&rows.all fun l=>decide (l.length=nn)
def Hv {R:Type} (T:ET) (ec:T.T) (L:DLb) (k:DLb->Option R):Option R:=match lget L 1 with
 | some (.ls t x)=>if h:t = .tf 1 T then
   let rows:List (List T.T):=(h▸x:List (ET.tf 1 T).T)
   if rz rows (rows.headD []).length=true then k (lset L 1 (.ls (.tf 1 T) (rows.map fun l=>List.replicate l.length ec))) else none
  else none
 | _=>none
theorem Hu {R:Type} {r:R} {T:ET} {ec:T.T} {L:DLb} {k:DLb->Option R} (h:Hv T ec L k=some r):∃rows nn,lget L 1=some (.ls (.tf 1 T) rows)/\rz (α:=T.T) rows nn=true/\k (lset L 1 (.ls (.tf 1 T) (List.replicate rows.length (List.replicate nn ec))))=some r:=by
 unfold Hv at h
 split at h
 ·rename_i t x hl
  split at h
  ·rename_i e;subst e
   simp only at h
   split at h
   ·rename_i hr
    refine ⟨x,_,hl,hr,?_⟩
    have hr2:=hr
    simp only [rz,Bool.and_eq_true,List.all_eq_true,decide_eq_true_eq] at hr2
    have e:(List.map (fun l:List T.T=>List.replicate l.length ec) x)=List.replicate (List.length x) (List.replicate (List.headD (x:List (List T.T)) []).length ec):=by
     refine List.ext_getElem? fun i=>?_
     rw [List.getElem?_map,List.getElem?_replicate]
     by_cases hi:i<List.length x
     ·rw [if_pos hi,List.getElem?_eq_getElem hi]
      simp only [Option.map_some]
      rw [hr2.2 _ (List.getElem_mem hi)]
     ·rw [if_neg hi,List.getElem?_eq_none (by omega)];rfl
    rw [<-e];exact h
   ·simp at h
  ·simp at h
 ·simp at h
def DIA (E:Env) (G:GTab) (C:CT E) (n:Nat) (rs:List ResultVar) (c9:Code) (h:Hint) (ar:List Sh) (ls:List (Nat×LSh)) (ot:Tm) (T:ET) (ec:T.T) (a:HT (Sh.hss ar++hsL ls)):Option ot.T:=
 let b:=inS ar ls (ab _ a)
 let fin (s:St):Option ot.T:=match dres E.P s rs with
  | some ds=>ot.leafK (keys ls) b ⟨[(0,dtup ds)],s.L,[0],s.dl⟩ some
  | none=>none
 Hv T ec b.L fun L=>D E G C n c9 h ot.T (keys ls) ⟨[(0,.ptr 0 0)],L,[],[(1,none)]⟩ fin fun e s=>match e with
  | .ret=>fin s
  | _=>none
def othD (d:DV):Bool:=d.labs S0&&d.noF
def othK:ET->Bool
 | .tf 2 t=>t.noF
 | t=>t.noF
theorem IR {t:ET} (h:othK t=true) (l:List t.T):∀x∈fl (el t) l,Oth x:=by
 intro x hx
 have key:t.noF=true->Oth x:=fun h=>by
  have:=fH (S:=S0) (.inl h) l
  rw [ct] at this
  exact .inl (List.all_eq_true.1 this x hx)
 unfold othK at h
 split at h
 ·rename_i t _
  rw [Cc] at hx
  obtain ⟨y,hy,rfl⟩:=List.mem_map.1 hx
  exact .inr ⟨_,_,_,rfl,hY h y⟩
 ·exact key h
def othC:DC->Bool
 | .gone=>true
 | .cs ds=>ds.all othD
 | .ls t _=>othK t
theorem Ez {c:DC} (h:othC c=true) {cells:List PV} (hc:c.pv=some cells):∀x∈cells,Oth x:=by
 cases c with
 | gone=>simp [DC.pv] at hc
 | cs ds=>
  simp [DC.pv] at hc;subst hc
  intro x hx
  rw [nX] at hx
  obtain ⟨d,hd,rfl⟩:=List.mem_map.1 hx
  have:=List.all_eq_true.1 h d hd
  simp only [othD,Bool.and_eq_true] at this
  exact .inl (jE this.1 (.inl this.2))
 | ls t l=>
  simp [DC.pv] at hc;subst hc
  exact IR h l
theorem B2 (L:DLb) (l:Nat):hasL (dlb L) l=(keys L).elem l:=by rw [dj]
theorem KX {E:Env} {G:GTab} {C:CT E} (h0:E.on none none=E) (hm:E.P.follows .mixedOrders=true) (hG:E.G=gtPV G) (hE:GOK E) {f:FuncId} {fn:Func} {c:Code} (hf:E.P.funcs[f]?=some fn) (hb:fn.body=some c)
  {h:Hint} {ar:List Sh} {ls:List (Nat×LSh)} {ot:Tm} (hk:Sh.kOKs ar=true/\(ls.all fun p=>p.2.kOK)=true/\qQ ot=true/\decide (ar.length<=fn.ntmps)=true) {a:HT (Sh.hss ar++hsL ls)} {v:ot.T}
  {T:ET} {ec:T.T} {r0 r1 r2 c3 r8 c9:Code} {j0 j1:Nat} (hc:c = .seq (.seq r0 (.block j0 (.loop (.seq r1 (.seq (.cond (.tmp 12) .skip (.exit j0)) (.seq (.block j1 (.seq r2 c3)) r8)))))) c9)
  (hT:T.noF=true) {c0:List DV} {rows:List (List T.T)} {Lr:DLb} (hL:(inS ar ls (ab _ a)).L=(0,.cs c0)::(1,.ls (.tf 1 T) rows)::Lr) (hA:inA ar ls (ab _ a)=[.ptr 0 0])
  (hks:(keys ls).elem rlab=false/\(keys ls).elem de=false/\lget Lr 1=none/\lget Lr rlab=none/\othC (.cs c0)=true/\Lr.all (fun p=>othC p.2)=true /\
   (((0,.cs c0)::(1,.ls (.tf 1 T) rows)::Lr:DLb).all fun p=>iM (fun l=>(keys ((0,.cs c0)::(1,.ls (.tf 1 T) rows)::Lr:DLb)).elem l) p.2)=true)
  (p0:AW E (fun l=>lget (dlb (inL ar ls (ab _ a))) l≠none) fn.ntmps r0 (fun e al L=>e = .normal/\Weak E (fun l=>lget (dlb (inL ar ls (ab _ a))) l≠none) al L (alA rows.length 0) (lF (DV.pvs c0) (dlb Lr) rows [])) (lQ [.ptr 0 0] 0) (lF (DV.pvs c0) (dlb Lr) rows []))
  (p1:∀(r:Int) (rs:List (List T.T)) (tl:Lb),(tl=[]\/tl=[(rlab,none)])->AW E (fun l=>lget (dlb (inL ar ls (ab _ a))) l≠none) fn.ntmps r1 (fun e al L=>e = .normal/\Weak E (fun l=>lget (dlb (inL ar ls (ab _ a))) l≠none) al L ((12,.bool (decide (r<rows.length)))::alA rows.length r) (lF (DV.pvs c0) (dlb Lr) rs tl)) (alA rows.length r) (lF (DV.pvs c0) (dlb Lr) rs tl))
  (p8:rows.length<=1000->∀(r:Int) (rs:List (List T.T)) (tl:Lb),(tl=[]\/tl=[(rlab,none)])->0<=r->r<rows.length->AW E (fun l=>lget (dlb (inL ar ls (ab _ a))) l≠none) fn.ntmps r8 (fun e al L=>e = .normal/\Weak E (fun l=>lget (dlb (inL ar ls (ab _ a))) l≠none) al L (alA rows.length (r+1)) (lF (DV.pvs c0) (dlb Lr) rs tl)) (alA rows.length r) (lF (DV.pvs c0) (dlb Lr) rs tl))
  (p2:∀(nn r:Nat) (ds:List PV) (cont:List T.T),ds.length=rows.length->ds[r]?=some (.rw rlab 0 nn T.sz none)->AW E (fun l=>lget (dlb (inL ar ls (ab _ a))) l≠none) fn.ntmps r2 (fun e al L=>e = .normal/\Weak E (fun l=>lget (dlb (inL ar ls (ab _ a))) l≠none) al L ((3,.rw rlab 0 nn T.sz none)::alA rows.length r) (lM (DV.pvs c0) (dlb Lr) ds cont)) (alA rows.length r) (lM (DV.pvs c0) (dlb Lr) ds cont))
  (p3:∀(nn:Nat) (r:Int) (dds:List DV) (cont:List T.T),DV.oks dds->nn<=1000->cont.length=nn->AW E (fun l=>lget (dlb (inL ar ls (ab _ a))) l≠none) fn.ntmps c3 (fun e al L=>e = .normal/\Weak E (fun l=>lget (dlb (inL ar ls (ab _ a))) l≠none) al L (alA rows.length r) (lM (DV.pvs c0) (dlb Lr) (DV.pvs dds) (List.replicate nn ec))) ((3,.rw rlab 0 nn T.sz none)::alA rows.length r) (lM (DV.pvs c0) (dlb Lr) (DV.pvs dds) cont))
  (hv:DIA E G C fn.ntmps fn.results.toList c9 h ar ls ot T ec a=some v) :
  dQ E f (DV.pvs (inA ar ls (ab _ a))) (dlb (inL ar ls (ab _ a))) fun x L=>x=(resV (ot.app v (inS ar ls (ab _ a)))).pv/\L=dlb (ot.app v (inS ar ls (ab _ a))).L:=by
 obtain ⟨hk1,hk2,hk3,hk4⟩:=hk
 simp only [decide_eq_true_eq] at hk4
 obtain ⟨V,hV⟩:=qa hk3 v (b:=inS ar ls (ab _ a))
 have hres:resV (ot.app v (inS ar ls (ab _ a)))=V:=by unfold resV;rw [hV]
 rw [hres]
 have hbok:(inS ar ls (ab _ a)).ok:=⟨fun t x hx=>by simp [inS,lget] at hx,fun l c hl=>ln hk2 (l,c) (ai hl)⟩
 obtain ⟨q1,q2,q3,q4,q5,q6,q7⟩:=hks
 have hkeys:∀l,lget (dlb (inL ar ls (ab _ a))) l≠none->(keys ls).elem l=true:=fun l hl=>by
  have:hasL (dlb (inL ar ls (ab _ a))) l=true:=by simpa [hasL,Option.isSome_iff_ne_none] using hl
  rw [dj] at this
  unfold inL at this
  rw [show keys (mkL (kG ar ls (ab _ a)) ls (Sh.mks (kG ar ls (ab _ a)) ar (ab _ a)).2).1=keys ls from gw _ _ _] at this
  exact this
 have hK50:¬lget (dlb (inL ar ls (ab _ a))) rlab≠none:=fun h=>by have:=hkeys _ h;rw [q1] at this;simp at this
 have hKf:¬lget (dlb (inL ar ls (ab _ a))) de≠none:=fun h=>by have:=hkeys _ h;rw [q2] at this;simp at this
 refine qZ hf hb (by rw [aB];unfold inA;rw [n8];exact hk4) (by rw [aZ,hV];rfl) ?_
 have hLe:inL ar ls (ab _ a)=(0,.cs c0)::(1,.ls (.tf 1 T) rows)::Lr:=hL
 have hLp:dlb (inL ar ls (ab _ a))=lF (DV.pvs c0) (dlb Lr) rows []:=by rw [hLe];simp [lF,dlb,DC.pv]
 unfold DIA at hv
 obtain ⟨rs,nn,hl1,hro,h9⟩:=Hu hv
 rw [hL] at hl1
 have hl1':(some (DC.ls (.tf 1 T) rows):Option DC)=some (.ls (.tf 1 T) rs):=hl1
 simp at hl1'
 have hrs:(rs:List (List T.T))=rows:=hl1'.symm
 subst hrs
 simp only [rz,Bool.and_eq_true,List.all_eq_true,decide_eq_true_eq] at hro
 obtain ⟨⟨⟨hnn,hn1⟩,hle⟩,hlen⟩:=hro
 rw [h0,hA,hc]
 show AW E (fun l=>lget (dlb (inL ar ls (ab _ a))) l≠none) fn.ntmps _ _ (lQ [.ptr 0 0] 0) (dlb (inL ar ls (ab _ a)))
 rw [show AW E (fun l=>lget (dlb (inL ar ls (ab _ a))) l≠none) fn.ntmps=AW E (fun l=>lget (dlb (inL ar ls (ab _ a))) l≠none) fn.ntmps from rfl]
 have hLoop:=Ft (E:=E) (K:=fun l=>lget (dlb (inL ar ls (ab _ a))) l≠none) (n:=fn.ntmps) hE hT hK50 hKf (N:=List.length rs) hnn (c0:=DV.pvs c0) (Lr:=dlb Lr) (Ez q5 rfl) (fun k cells hk=>by
   rw [an] at hk
   cases hc:lget Lr k with
   | none=>rw [hc] at hk;simp at hk
   | some c=>rw [hc] at hk;simp at hk;exact Ez (List.all_eq_true.1 q6 _ (ai hc)) hk) (by rw [an,q3];rfl) (by rw [an,q4];rfl) (ec:=ec) (j0:=j0) (j1:=j1) p1 (p8 hle) (p2 nn) (fun r ds cont hdd _ hcn=>by obtain ⟨dds,rfl,hdo⟩:=hdd;exact p3 nn r dds cont hdo hn1 hcn) (rows:=rs) rfl hlen
 have hstart:AW E (fun l=>lget (dlb (inL ar ls (ab _ a))) l≠none) fn.ntmps (.seq (.seq r0 (.block j0 (.loop (.seq r1 (.seq (.cond (.tmp 12) .skip (.exit j0)) (.seq (.block j1 (.seq r2 c3)) r8)))))) c9)
   (fun e al L'=>(match e with | .normal=>True | .ret=>True | _=>False)/\∃xs,xres E.P al L' fn.results.toList=some xs/\Weak E (fun l=>lget (dlb (inL ar ls (ab _ a))) l≠none) [(0,rtup xs)] L' (dal (ot.app v (inS ar ls (ab _ a))).al) (dlb (ot.app v (inS ar ls (ab _ a))).L)) (lQ [.ptr 0 0] 0) (lF (DV.pvs c0) (dlb Lr) rs []):=by
  refine cK (cK (p0.mono ?_))
  rintro e al L ⟨rfl,hw⟩
  refine cY hw (hLoop.mono ?_)
  rintro e al L ⟨rfl,r,tl,htl,hw⟩
  show AW E _ _ c9 _ al L
  refine cY hw ?_
  have hdL:dlb (lset (inS ar ls (ab _ a)).L 1 (.ls (.tf 1 T) (List.replicate (List.length rs) (List.replicate nn ec))))=lF (DV.pvs c0) (dlb Lr) (List.replicate (List.length rs) (List.replicate nn ec)) []:=by
   rw [hL]
   simp [lset,lF,dlb,DC.pv]
  have htr:Weak E (fun l=>lget (dlb (inL ar ls (ab _ a))) l≠none) (alA (List.length rs) r) (lF (DV.pvs c0) (dlb Lr) (List.replicate (List.length rs) (List.replicate nn ec)) tl) (dal [(0,.ptr 0 0)]) (lF (DV.pvs c0) (dlb Lr) (List.replicate (List.length rs) (List.replicate nn ec)) []):=by
   have hsub:∀p∈dal [(0,DV.ptr 0 0)],lget (alA (List.length rs) r) p.1=some p.2:=by
    intro p hp
    simp [dal,DV.pv] at hp
    subst hp;rfl
   rcases htl with rfl | rfl
   ·exact Weak.sub hsub
   ·have hkk:∀l,hasL (lF (DV.pvs c0) (dlb Lr) (List.replicate (List.length rs) (List.replicate nn ec)) []) l=(keys ((0,.cs c0)::(1,.ls (.tf 1 T) rs)::Lr:DLb)).elem l:=by
     intro l
     rw [<-hdL,B2,hL];rfl
    refine Weak.trim hsub (fun l y hl=>?_) (fun l hl=>?_) ?_ ?_ hE
    ·simp only [lF,lget] at hl ⊢
     by_cases e0:0=l
     ·rw [if_pos e0] at hl ⊢;exact hl
     ·rw [if_neg e0] at hl ⊢
      by_cases e1:1=l
      ·rw [if_pos e1] at hl ⊢;exact hl
      ·rw [if_neg e1] at hl ⊢
       rw [List.append_nil] at hl
       rw [dH,hl]
    ·left
     have:=hkeys l hl
     have h2:hasL (lF (DV.pvs c0) (dlb Lr) (List.replicate (List.length rs) (List.replicate nn ec)) []) l=true:=by
      rw [hkk]
      have h3:hasL (dlb (inL ar ls (ab _ a))) l=true:=by simpa [hasL,Option.isSome_iff_ne_none] using hl
      rw [hLe,B2] at h3;exact h3
     simpa [hasL,Option.isSome_iff_ne_none] using h2
    ·simp [dal,DV.pv,am,hkk,keys]
    ·rw [List.all_eq_true]
     intro p hp
     have hp':p∈dlb (lset (inS ar ls (ab _ a)).L 1 (.ls (.tf 1 T) (List.replicate (List.length rs) (List.replicate nn ec)))):=by rw [hdL];exact hp
     rw [hL] at hp'
     have hSe:hasL (lF (DV.pvs c0) (dlb Lr) (List.replicate (List.length rs) (List.replicate nn ec)) [])=fun l=>(keys ((0,.cs c0)::(1,.ls (.tf 1 T) rs)::Lr:DLb)).elem l:=funext hkk
     rw [hSe]
     obtain ⟨⟨k,cc⟩,hq,rfl⟩:=List.mem_map.1 hp'
     simp only [lset] at hq
     rw [if_neg (by decide)] at hq
     simp only [if_true] at hq
     have hall:=List.all_eq_true.1 q7
     have key:iM (fun l=>(keys ((0,.cs c0)::(1,.ls (.tf 1 T) rs)::Lr:DLb)).elem l) cc=true:=by
      rcases List.mem_cons.1 hq with e | hq
      ·simp at e;obtain ⟨rfl,rfl⟩:=e;exact hall (0,.cs c0) (by simp)
      ·rcases List.mem_cons.1 hq with e | hq
       ·simp at e;obtain ⟨rfl,rfl⟩:=e
        exact hall (1,.ls (.tf 1 T) rs) (by simp)
       ·exact hall (k,cc) (by simp [hq])
     simp only
     cases hcc:cc.pv with
     | none=>rfl
     | some cells=>
      simp only
      cases cc with
      | gone=>simp [DC.pv] at hcc
      | cs ds=>simp [DC.pv] at hcc;subst hcc;exact ek key
      | ls t x=>
       simp [DC.pv] at hcc;subst hcc
       simp only [iM,Bool.or_eq_true] at key
       exact fH key _
  refine cY htr ?_
  rw [<-hdL]
  have hfin:∀s:St,Up ⟨[(0,.ptr 0 0)],lset (inS ar ls (ab _ a)).L 1 (.ls (.tf 1 T) (List.replicate (List.length rs) (List.replicate nn ec))),[],[(1,none)]⟩ s->s.ok->(match dres E.P s fn.results.toList with
    | some ds=>ot.leafK (keys ls) (inS ar ls (ab _ a)) ⟨[(0,dtup ds)],s.L,[0],s.dl⟩ some
    | none=>none)=some v->∃xs,xres E.P (dal s.al) (dlb s.L) fn.results.toList=some xs/\Weak E (fun l=>lget (dlb (inL ar ls (ab _ a))) l≠none) [(0,rtup xs)] (dlb s.L) (dal (ot.app v (inS ar ls (ab _ a))).al) (dlb (ot.app v (inS ar ls (ab _ a))).L):=by
   intro s hu hs hr
   split at hr
   ·rename_i ds hds
    obtain ⟨h1,h2⟩:=ou hs hds
    refine ⟨_,h1,?_⟩
    obtain ⟨w,hw,hr⟩:=iy hr
    simp at hr;subst hr
    have hbase:Ext ⟨[(0,.ptr 0 0)],(inS ar ls (ab _ a)).L,[],[]⟩ ⟨[(0,.ptr 0 0)],lset (inS ar ls (ab _ a)).L 1 (.ls (.tf 1 T) (List.replicate (List.length rs) (List.replicate nn ec))),[],[(1,none)]⟩:=by
     refine ⟨fun _ _=>rfl,fun l hl=>?_,fun l cs0 hl h0=>⟨cs0,?_,rfl,fun _ _=>rfl⟩⟩
     ·rw [ao,if_neg];rintro rfl;exact hl none (by simp)
     ·rw [<-h0];show lget (lset _ _ _) l=_;rw [ao,if_neg];rintro rfl;exact hl (by simp)
    have he:=hu _ hbase
    have:=(j7 (E:=E) (K:=fun l=>lget (dlb (inL ar ls (ab _ a))) l≠none) hw ⟨fun t ht=>?_,he.lb,he.ce⟩ ⟨fun t x hx=>?_,hs.2⟩ hbok (fun l hl=>?_) hE).1
    ·rw [<-wy];exact this
    ·simp only [List.mem_singleton] at ht
     simp [lget,inS,Ne.symm ht]
    ·simp only [lget] at hx
     split at hx
     ·simp at hx;subst hx
      exact AJ h2
     ·simp at hx
    ·have:=hkeys l hl
     simpa using this
   ·simp at hr
  exact D_ok (s:=⟨[(0,.ptr 0 0)],lset (inS ar ls (ab _ a)).L 1 (.ls (.tf 1 T) (List.replicate (List.length rs) (List.replicate nn ec))),[],[(1,none)]⟩) hm hG hE (fun l hl=>by
    have:=hkeys l hl
    simpa using this) c9 h9 ⟨fun t x hx=>by
     simp only [lget] at hx
     split at hx
     ·simp at hx;subst hx;trivial
     ·simp at hx,fun l c hc=>by
     rw [ao] at hc
     split at hc
     ·simp at hc;subst hc;trivial
     ·exact hbok.2 l c hc⟩
   (fun s' hu hok hr=>⟨trivial,hfin s' hu hok hr⟩) fun e s' hne hu hok hr=>by
    cases e with
    | ret=>exact ⟨trivial,hfin s' hu hok hr⟩
    | _=>simp at hr
 rw [hLp] at hstart ⊢
 exact hstart
end Go.SH
namespace Go.SH
variable [SentA]
section
variable {E:Env} {K:Nat->Prop} {n:Nat} {T:ET}
def alI (N:Nat) (r:Int) (nn:Nat) (k:Int):Al:=(17,.int .i64 k)::(16,.int .i64 nn)::(3,.rw rlab 0 nn T.sz none)::alA N r
theorem Ht {N nn:Nat} {r:Int} {c0:List PV} {Lr:Lb} {ds:List PV} {ec:T.T} {r3 r4 r5 r7:Code} {j2 j3:Nat} (hn1:nn<=1000)
  (h3:∀cont:List T.T,AW E K n r3 (fun e al L=>e = .normal/\Weak E K al L (alI (T:=T) N r nn 0) (lM c0 Lr ds cont)) ((3,.rw rlab 0 nn T.sz none)::alA N r) (lM c0 Lr ds cont))
  (h4:∀(k:Int) (cont:List T.T),AW E K n r4 (fun e al L=>e = .normal/\Weak E K al L ((18,.bool (decide (k<nn)))::alI (T:=T) N r nn k) (lM c0 Lr ds cont)) (alI (T:=T) N r nn k) (lM c0 Lr ds cont))
  (h5:∀(k:Nat) (cont:List T.T),k<nn->cont.length=nn->AW E K n r5 (fun e al L=>e = .normal/\Weak E K al L (alI (T:=T) N r nn k) (lM c0 Lr ds (cont.set k ec))) (alI (T:=T) N r nn k) (lM c0 Lr ds cont))
  (h7:∀(k:Int) (cont:List T.T),0<=k->k<1000->AW E K n r7 (fun e al L=>e = .normal/\Weak E K al L (alI (T:=T) N r nn (k+1)) (lM c0 Lr ds cont)) (alI (T:=T) N r nn k) (lM c0 Lr ds cont))
  {cont:List T.T} (hc:cont.length=nn) :
  AW E K n (.seq r3 (.block j2 (.loop (.seq r4 (.seq (.cond (.tmp 18) .skip (.exit j2)) (.seq (.block j3 r5) r7)))))) (fun e al L=>e = .normal/\Weak E K al L (alA N r) (lM c0 Lr ds (List.replicate nn ec))) ((3,.rw rlab 0 nn T.sz none)::alA N r) (lM c0 Lr ds cont):=by
 classical
 let Qf:Exit->Al->Lb->Prop:=fun e al L=>e = .normal/\Weak E K al L (alA N r) (lM c0 Lr ds (List.replicate nn ec))
 refine cK ((h3 cont).mono ?_)
 rintro e al L ⟨rfl,hw⟩
 refine cY hw ?_
 let I:Al->Lb->Prop:=fun al L=>∃(k:Nat) (cont:List T.T),k<=nn/\cont.length=nn/\(∀i,i<k->cont[i]?=some ec)/\al=alI (T:=T) N r nn k/\L=lM c0 Lr ds cont
 let μ:Al->Lb->Nat:=fun al L=>match lget al 17 with
  | some (.int _ k)=>((nn:Int)-k).toNat
  | _=>0
 refine jL (Fe I μ ⟨0,cont,Nat.zero_le _,hc,fun i hi=>absurd hi (Nat.not_lt_zero _),rfl,rfl⟩ ?_)
 rintro al L ⟨k,cont,hkn,hcn,hdone,rfl,rfl⟩
 have hμ:μ (alI (T:=T) N r nn k) (lM c0 Lr ds cont)=((nn:Int)-k).toNat:=rfl
 rw [hμ]
 refine cK ((h4 k cont).mono ?_)
 rintro e al L ⟨rfl,hw⟩
 refine cY hw (cK (tX (b:=decide ((k:Int)<nn)) (by simp [lget]) (fun hb=>qz ?_) fun hb=>wD ?_))
 ·have hlt:k<nn:=by simpa using hb
  refine cY (Weak.sub (al':=alI (T:=T) N r nn k) fun p hp=>by
   simp only [alI,alA,List.mem_cons,List.not_mem_nil,or_false] at hp
   rcases hp with rfl | rfl | rfl | rfl | rfl | rfl | rfl <;> rfl) ?_
  refine cK (jL ((h5 k cont hlt hcn).mono ?_))
  rintro e al L ⟨rfl,hw2⟩
  show AW E K n r7 _ al L
  refine cY hw2 (qA (h7 k (cont.set k ec) (by omega) (by omega)) ?_)
  rintro e al L ⟨rfl,hw7⟩
  refine ⟨_,_,hw7,⟨k+1,cont.set k ec,by omega,by simp [hcn],fun i hi=>?_,by simp,rfl⟩,?_⟩
  ·by_cases e:k=i
   ·subst e;rw [List.getElem?_set_self (by omega)]
   ·rw [List.getElem?_set_ne e];exact hdone i (by omega)
  ·show ((nn:Int)-((k:Int)+1)).toNat<((nn:Int)-k).toNat
   omega
 ·have hge:k=nn:=by
   have:¬k<nn:=by simpa using hb
   omega
  subst hge
  have:cont=List.replicate k ec:=by
   refine List.ext_getElem? fun i=>?_
   by_cases hi:i<k
   ·rw [hdone i hi,List.getElem?_replicate,if_pos hi]
   ·rw [List.getElem?_eq_none (by omega),List.getElem?_replicate,if_neg hi]
  show pW j2 Qf (.exit j2) _ _
  simp only [pW,if_pos]
  refine ⟨rfl,?_⟩
  rw [<-this]
  exact Weak.sub fun p hp=>by
   simp only [alA,List.mem_cons,List.not_mem_nil,or_false] at hp
   rcases hp with rfl | rfl | rfl | rfl <;> rfl
theorem Kn {id:Nat} {T1 e1:TypeId} {ie:TypeInfo} {t1 t2:TypeId} {s1 s2 s3:String} {f1 f2 f3:Array Edge} {t3:TypeId} {N nn r:Nat} {c0:List PV} {Lr:Lb} {ds:List PV} {cont:List T.T}
  (hT:E.P.underlying T1=some (.slice e1)) (he:E.P.info? e1=some ie) (hs:ie.size=1) (hrow:dS E.P e1=some false) (hn:14<n) (hdl:ds.length=N) (hdr:ds[r]?=some (.rw rlab 0 nn T.sz none)) :
  AW E K n (.region id #[⟨some 13,.indexAddr T1 (.tmp 9) (.tmp 11),t1,s1,f1,none⟩,⟨some 14,.load e1 (.tmp 13),t2,s2,f2,none⟩,⟨some 3,.assign (.tmp 14),t3,s3,f3,none⟩] false) (fun e al L=>e = .normal/\Weak E K al L ((3,.rw rlab 0 nn T.sz none)::alA N r) (lM c0 Lr ds cont)) (alA N r) (lM c0 Lr ds cont):=by
 have hlt:r<N:=by rw [<-hdl];exact (List.getElem?_eq_some_iff.1 hdr).1
 refine nJ ?_
 refine pY (ra:=alA N r) (rl:=lM c0 Lr ds cont) (iF (q:=.ptr 1 (0+r*1)) (p:=.rw 1 0 N 1 none) (k:=.i64) (i:=(r:Int)) (n:=N) rfl rfl hT he rfl (by omega) (by omega) (by rw [hs];rfl)) (by intro t h;simp at h;subst h;first | exact hn | exact Nat.lt_trans (by decide) hn) (fun _ _ h=>h) (fun _ _ h=>h) (by intro p hp;simp at hp) rfl ?_
 refine pY (ra:=oset (some 13) (.ptr 1 (0+r*1)) (alA N r)) (rl:=lM c0 Lr ds cont) (kO (q:=.ptr 1 (0+r*1)) (x:=.rw rlab 0 nn T.sz none) rfl ?_) (by intro t h;simp at h;subst h;first | exact hn | exact Nat.lt_trans (by decide) hn) (fun _ _ h=>h) (fun _ _ h=>h) (by intro p hp;simp at hp) rfl ?_
 ·unfold kg
  simp only [fG,lM,lget]
  rw [if_neg (by decide),if_pos trivial]
  simp only [he,hrow,Nat.zero_add,Nat.mul_one]
  exact hdr
 refine pY (ra:=oset (some 14) (.rw rlab 0 nn T.sz none) (oset (some 13) (.ptr 1 (0+r*1)) (alA N r))) (rl:=lM c0 Lr ds cont) (sc (c:=.rw rlab 0 nn T.sz none) rfl) (by intro t h;simp at h;subst h;first | exact hn | exact Nat.lt_trans (by decide) hn) (fun _ _ h=>h) (fun _ _ h=>h) (by intro p hp;simp at hp) rfl ?_
 refine qy ⟨rfl,Weak.sub fun p hp=>?_⟩
 simp only [alA,List.mem_cons,List.not_mem_nil,or_false] at hp
 rcases hp with rfl | rfl | rfl | rfl | rfl <;> rfl
end
end Go.SH
namespace Go.SH
variable [SentA]
def cFst:Code->Code
 | .seq a _=>a
 | _=>.skip
def cSnd:Code->Code
 | .seq _ a=>a
 | _=>.skip
def opAt (c:Code) (i:Nat):Oper:=match c with
 | .region _ ops _=>(ops.toList[i]?).getD default
 | _=>default
def cIn:Code->Code
 | .block _ c=>c
 | .loop c=>c
 | _=>.skip
def pI (T:ET) (al:DAl):Option ((Nat×Int×Int)×(Nat×Int×Int)):=match lget al 17 with
 | some (.int .i64 k)=>match lget al 16 with
  | some (.int .i64 m)=>match lget al 3 with
   | some (.rw 50 sz 0 nn none _)=>if sz=T.sz then (match pS al with
    | some x=>some (x,(nn,m,k))
    | none=>none) else none
   | _=>none
  | _=>none
 | _=>none
theorem Dg {T:ET} {al:DAl} {N nn:Nat} {r k:Int} (h:pI T al=some ((N,(N:Int),r),(nn,(nn:Int),k))):∀p∈alI (T:=T) N r nn k,lget (dal al) p.1=some p.2:=by
 unfold pI at h
 split at h
 ·rename_i k' h17
  split at h
  ·rename_i m h16
   split at h
   ·rename_i sz nn' w h3
    split at h
    ·rename_i hsz
     split at h
     ·rename_i x hx
      simp at h
      obtain ⟨e1,rfl,rfl,rfl⟩:=h
      rw [e1] at hx
      intro p hp
      rcases List.mem_cons.1 hp with rfl | hp
      ·rw [aZ,h17];rfl
      ·rcases List.mem_cons.1 hp with rfl | hp
       ·rw [aZ,h16];rfl
       ·rcases List.mem_cons.1 hp with rfl | hp
        ·rw [aZ,h3];simp [DV.pv,hsz,rlab]
        ·exact Df hx p hp
     ·simp at h
    ·simp at h
   ·simp at h
  ·simp at h
 ·simp at h
def pI1 (T:ET) (s:St):Option ((Nat×Int×Int)×(Nat×Int×Int)):=match s.dl with
 | []=>pI T s.al
 | _=>none
def pI2 (T:ET) (s:St):Option (((Nat×Int×Int)×(Nat×Int×Int))×Bool):=match s.dl with
 | []=>match lget s.al 18 with
  | some (.bool q)=>match pI T s.al with
   | some x=>some (x,q)
   | none=>none
  | _=>none
 | _=>none
def pI3 (T:ET) (s:St):Option (((Nat×Int×Int)×(Nat×Int×Int))×List T.T):=match s.dl.all (fun p=>Nat.beq p.1 rlab) with
 | true=>match lget s.L rlab with
  | some (.ls t l)=>if h:t=T then match pI T s.al with
   | some x=>some (x,h▸l)
   | none=>none else none
  | _=>none
 | false=>none
section
variable {E:Env} {K:Nat->Prop} {n:Nat} {G:GTab} {C:CT E} {ks:List Nat}
theorem Ew (hm:E.P.follows .mixedOrders=true) (hG:E.G=gtPV G) (hE:GOK E) (hK:∀l,K l->l∈ks) {T:ET} {c:Code} {h:Hint} {s:St} {N nn:Nat} {r k:Int} (hr:D E G C n c h _ ks s (pI1 T) (fun _ _=>none)=some ((N,(N:Int),r),(nn,(nn:Int),k))) (hs:s.ok) :
  AW E K n c (fun e al L=>e = .normal/\Weak E K al L (alI (T:=T) N r nn k) (dlb s.L)) (dal s.al) (dlb s.L):=by
 refine D_ok hm hG hE hK c hr hs (fun s' hu _ hp=>⟨rfl,?_⟩) (fun _ _ _ _ _ h=>by simp at h)
 unfold pI1 at hp
 split at hp
 ·rename_i hd
  exact (Weak.sub (Dg hp)).trans (Weak.eqL (Ak hu hd))
 ·simp at hp
theorem IP (hm:E.P.follows .mixedOrders=true) (hG:E.G=gtPV G) (hE:GOK E) (hK:∀l,K l->l∈ks) {T:ET} {c:Code} {h:Hint} {s:St} {N nn:Nat} {r k:Int} {q:Bool} (hr:D E G C n c h _ ks s (pI2 T) (fun _ _=>none)=some (((N,(N:Int),r),(nn,(nn:Int),k)),q)) (hs:s.ok) :
  AW E K n c (fun e al L=>e = .normal/\Weak E K al L ((18,.bool q)::alI (T:=T) N r nn k) (dlb s.L)) (dal s.al) (dlb s.L):=by
 refine D_ok hm hG hE hK c hr hs (fun s' hu _ hp=>⟨rfl,?_⟩) (fun _ _ _ _ _ h=>by simp at h)
 unfold pI2 at hp
 split at hp
 ·rename_i hd
  split at hp
  ·rename_i q' hq
   split at hp
   ·rename_i x hx
    simp at hp;obtain ⟨e,rfl⟩:=hp
    rw [e] at hx
    refine (Weak.sub fun p h1=>?_).trans (Weak.eqL (Ak hu hd))
    rcases List.mem_cons.1 h1 with rfl | h1
    ·rw [aZ,hq];rfl
    ·exact Dg hx p h1
   ·simp at hp
  ·simp at hp
 ·simp at hp
theorem IN (hm:E.P.follows .mixedOrders=true) (hG:E.G=gtPV G) (hE:GOK E) (hK:∀l,K l->l∈ks) {T:ET} {c:Code} {h:Hint} {s:St} {N nn:Nat} {r k:Int} {l:List T.T} (hr:D E G C n c h _ ks s (pI3 T) (fun _ _=>none)=some (((N,(N:Int),r),(nn,(nn:Int),k)),l)) (hs:s.ok) :
  AW E K n c (fun e al L=>e = .normal/\Weak E K al L (alI (T:=T) N r nn k) (lset (dlb s.L) rlab (some (fl (el T) l)))) (dal s.al) (dlb s.L):=by
 refine D_ok hm hG hE hK c hr hs (fun s' hu _ hp=>⟨rfl,?_⟩) (fun _ _ _ _ _ h=>by simp at h)
 unfold pI3 at hp
 split at hp
 ·rename_i hd
  split at hp
  ·rename_i t l' hl
   split at hp
   ·rename_i e;subst e
    split at hp
    ·rename_i x hx
     simp at hp;obtain ⟨e,rfl⟩:=hp
     rw [e] at hx
     refine (Weak.sub (Dg hx)).trans (Weak.eqL fun k=>?_)
     rw [ao]
     by_cases e:rlab=k
     ·subst e;rw [if_pos rfl,an,hl];rfl
     ·rw [if_neg e,an,an,(hu s (.refl s)).lb k fun i hi=>?_]
      have:=List.all_eq_true.1 hd _ hi
      exact e (Nat.eq_of_beq_eq_true this).symm
    ·simp at hp
   ·simp at hp
  ·simp at hp
 ·simp at hp
end
def sA0 (T:ET) (c0:List DV) (Lr:DLb) (rows:List (List T.T)):St:=⟨[(0,.ptr 0 0)],(0,.cs c0)::(1,.ls (.tf 1 T) rows)::Lr,[],[]⟩
def sA (T:ET) (c0:List DV) (Lr:DLb) (N:Nat) (r:Int) (rows:List (List T.T)) (tl:DLb):St:=
 ⟨[(9,.rw 1 1 0 N none true),(10,.int .i64 N),(11,.int .i64 r),(0,.ptr 0 0)],(0,.cs c0)::(1,.ls (.tf 1 T) rows)::(Lr++tl),[],[]⟩
def s3 (T:ET) (c0:List DV) (Lr:DLb) (N:Nat) (r:Int) (nn:Nat) (dds:List DV) (cont:List T.T):St:=
 ⟨[(3,.rw rlab T.sz 0 nn none true),(9,.rw 1 1 0 N none true),(10,.int .i64 N),(11,.int .i64 r),(0,.ptr 0 0)],(0,.cs c0)::(1,.cs dds)::(Lr++[(rlab,.ls T cont)]),[],[]⟩
def sI (T:ET) (c0:List DV) (Lr:DLb) (N:Nat) (r:Int) (nn:Nat) (k:Int) (dds:List DV) (cont:List T.T):St:=
 ⟨[(17,.int .i64 k),(16,.int .i64 nn),(3,.rw rlab T.sz 0 nn none true),(9,.rw 1 1 0 N none true),(10,.int .i64 N),(11,.int .i64 r),(0,.ptr 0 0)],(0,.cs c0)::(1,.cs dds)::(Lr++[(rlab,.ls T cont)]),[],[]⟩
theorem okAl {al:DAl} (h:∀p∈al,p.2.ok):alOk al:=fun t x hx=>h (t,x) (ai hx)
theorem okLb {L:DLb} (h:∀p∈L,p.2.ok):lbOk L:=fun t x hx=>h (t,x) (ai hx)
theorem kin {ar:List Sh} {ls:List (Nat×LSh)} {vs:List TV}:∀l,lget (dlb (inL ar ls vs)) l≠none->l∈keys ls:=fun l hl=>by
 have:hasL (dlb (inL ar ls vs)) l=true:=by simpa [hasL,Option.isSome_iff_ne_none] using hl
 rw [dj] at this
 unfold inL at this
 rw [show keys (mkL (kG ar ls vs) ls (Sh.mks (kG ar ls vs) ar vs).2).1=keys ls from gw _ _ _] at this
 simpa using this
theorem rc {x:Int} (h0:0<=x) (h:x<2000):IntKind.wrap .i64 x=x:=by
 simp [IntKind.wrap,IntKind.bits,IntKind.signed]
 omega
theorem H5 {E:Env} {G:GTab} {C:CT E} (h0:E.on none none=E) (hm:E.P.follows .mixedOrders=true) (hG:E.G=gtPV G) (hE:GOK E) {f:FuncId} {fn:Func} {c:Code} (hf:E.P.funcs[f]?=some fn) (hb:fn.body=some c)
  {h:Hint} {ar:List Sh} {ls:List (Nat×LSh)} {ot:Tm} (hk:Sh.kOKs ar=true/\(ls.all fun p=>p.2.kOK)=true/\qQ ot=true/\decide (ar.length<=fn.ntmps)=true) {a:HT (Sh.hss ar++hsL ls)} {v:ot.T}
  {T:ET} {ec:T.T} {r0 r1 r2 r3 r4 r5 r7 r8 c9:Code} {j0 j1 j2 j3:Nat}
  (hc:c = .seq (.seq r0 (.block j0 (.loop (.seq r1 (.seq (.cond (.tmp 12) .skip (.exit j0)) (.seq (.block j1 (.seq r2 (.seq r3 (.block j2 (.loop (.seq r4 (.seq (.cond (.tmp 18) .skip (.exit j2)) (.seq (.block j3 r5) r7)))))))) r8)))))) c9)
  {id:Nat} {T1 e1:TypeId} {t1 t2 t3:TypeId} {s1 s2 s3':String} {f1 f2 f3:Array Edge}
  (h2:r2 = .region id #[⟨some 13,.indexAddr T1 (.tmp 9) (.tmp 11),t1,s1,f1,none⟩,⟨some 14,.load e1 (.tmp 13),t2,s2,f2,none⟩,⟨some 3,.assign (.tmp 14),t3,s3',f3,none⟩] false)
  (hT1:E.P.underlying T1=some (.slice e1)) (hes:(E.P.info? e1).map (fun i=>i.size)=some 1) (hrow:dS E.P e1=some false) (hn:14<fn.ntmps)
  (hT:T.noF=true) {c0:List DV} {rows:List (List T.T)} {Lr:DLb} (hL:(inS ar ls (ab _ a)).L=(0,.cs c0)::(1,.ls (.tf 1 T) rows)::Lr) (hA:inA ar ls (ab _ a)=[.ptr 0 0])
  (hks:(keys ls).elem rlab=false/\(keys ls).elem de=false/\lget Lr 1=none/\lget Lr rlab=none/\othC (.cs c0)=true/\Lr.all (fun p=>othC p.2)=true /\
   (((0,.cs c0)::(1,.ls (.tf 1 T) rows)::Lr:DLb).all fun p=>iM (fun l=>(keys ((0,.cs c0)::(1,.ls (.tf 1 T) rows)::Lr:DLb)).elem l) p.2)=true)
  (q0:D E G C fn.ntmps r0 .leaf _ (keys ls) (sA0 T c0 Lr rows) pA (fun _ _=>none)=some (rows.length,(rows.length:Int),0))
  (q1:∀(N:Nat) (r:Int) rs tl,D E G C fn.ntmps r1 .leaf _ (keys ls) (sA T c0 Lr N r rs tl) pB (fun _ _=>none)=some ((N,(N:Int),r),decide (r<N)))
  (q8:∀(N:Nat) (r:Int) rs tl,D E G C fn.ntmps r8 .leaf _ (keys ls) (sA T c0 Lr N r rs tl) pA (fun _ _=>none)=some (N,(N:Int),IntKind.wrap .i64 (r+1)))
  (q3:∀(N:Nat) (r:Int) (nn:Nat) dds cont,D E G C fn.ntmps r3 .leaf _ (keys ls) (s3 T c0 Lr N r nn dds cont) (pI1 T) (fun _ _=>none)=some ((N,(N:Int),r),(nn,(nn:Int),0)))
  (q4:∀(N:Nat) (r:Int) (nn:Nat) (k:Int) dds cont,D E G C fn.ntmps r4 .leaf _ (keys ls) (sI T c0 Lr N r nn k dds cont) (pI2 T) (fun _ _=>none)=some (((N,(N:Int),r),(nn,(nn:Int),k)),decide (k<nn)))
  (q5:∀(N:Nat) (r:Int) (nn:Nat) (k:Int) dds cont,0<=k->k<nn->cont.length=nn->D E G C fn.ntmps r5 .leaf _ (keys ls) (sI T c0 Lr N r nn k dds cont) (pI3 T) (fun _ _=>none)=some (((N,(N:Int),r),(nn,(nn:Int),k)),cont.set k.toNat ec))
  (q7:∀(N:Nat) (r:Int) (nn:Nat) (k:Int) dds cont,D E G C fn.ntmps r7 .leaf _ (keys ls) (sI T c0 Lr N r nn k dds cont) (pI1 T) (fun _ _=>none)=some ((N,(N:Int),r),(nn,(nn:Int),IntKind.wrap .i64 (k+1))))
  (hv:DIA E G C fn.ntmps fn.results.toList c9 h ar ls ot T ec a=some v) :
  dQ E f (DV.pvs (inA ar ls (ab _ a))) (dlb (inL ar ls (ab _ a))) fun x L=>x=(resV (ot.app v (inS ar ls (ab _ a)))).pv/\L=dlb (ot.app v (inS ar ls (ab _ a))).L:=by
 obtain ⟨ie,he,hs⟩:=Option.map_eq_some_iff.1 hes
 have hbok:lbOk (inS ar ls (ab _ a)).L:=fun l c hl=>ln hk.2.1 (l,c) (ai hl)
 rw [hL] at hbok
 have hc0:DV.oks c0:=hbok 0 (.cs c0) (by simp [lget])
 have hLr:∀p∈Lr,p.2.ok:=fun p hp=>by
  have:p∈(inS ar ls (ab _ a)).L:=by rw [hL];simp [hp]
  exact ln hk.2.1 p this
 have tlok:∀{tl:DLb},(tl=[]\/tl=[(rlab,.gone)])->∀p∈tl,p.2.ok:=by
  rintro tl (rfl | rfl) p hp
  ·simp at hp
  ·simp at hp;subst hp;trivial
 have okA:∀N r rs tl,(tl=[]\/tl=[(rlab,.gone)])->(sA T c0 Lr N r rs tl).ok:=fun N r rs tl ht=>by
  refine ⟨okAl ?_,okLb ?_⟩
  ·intro p hp
   simp only [sA,List.mem_cons,List.not_mem_nil,or_false] at hp
   rcases hp with rfl | rfl | rfl | rfl <;> trivial
  ·intro p hp
   simp only [sA,List.mem_cons,List.mem_append] at hp
   rcases hp with rfl | rfl | hp | hp
   ·exact hc0
   ·trivial
   ·exact hLr p hp
   ·exact tlok ht p hp
 have okI:∀N r nn k dds cont,DV.oks dds->(sI T c0 Lr N r nn k dds cont).ok:=fun N r nn k dds cont hd=>by
  refine ⟨okAl ?_,okLb ?_⟩
  ·intro p hp
   simp only [sI,List.mem_cons,List.not_mem_nil,or_false] at hp
   rcases hp with rfl | rfl | rfl | rfl | rfl | rfl | rfl <;> trivial
  ·intro p hp
   simp only [sI,List.mem_cons,List.mem_append,List.not_mem_nil,or_false] at hp
   rcases hp with rfl | rfl | hp | rfl
   ·exact hc0
   ·exact hd
   ·exact hLr p hp
   ·trivial
 have ok3:∀N r nn dds cont,DV.oks dds->(s3 T c0 Lr N r nn dds cont).ok:=fun N r nn dds cont hd=>by
  refine ⟨okAl ?_,okLb ?_⟩
  ·intro p hp
   simp only [s3,List.mem_cons,List.not_mem_nil,or_false] at hp
   rcases hp with rfl | rfl | rfl | rfl | rfl <;> trivial
  ·intro p hp
   simp only [s3,List.mem_cons,List.mem_append,List.not_mem_nil,or_false] at hp
   rcases hp with rfl | rfl | hp | rfl
   ·exact hc0
   ·exact hd
   ·exact hLr p hp
   ·trivial
 have toD:∀{tl:Lb},(tl=[]\/tl=[(rlab,none)])->∃tl':DLb,dlb tl'=tl/\(tl'=[]\/tl'=[(rlab,.gone)]):=by
  rintro tl (rfl | rfl)
  ·exact ⟨[],rfl,.inl rfl⟩
  ·exact ⟨[(rlab,.gone)],rfl,.inr rfl⟩
 have eA:∀N r rs tl,dal (sA T c0 Lr N r rs tl).al=alA N r/\dlb (sA T c0 Lr N r rs tl).L=lF (DV.pvs c0) (dlb Lr) rs (dlb tl):=fun N r rs tl=>
  ⟨by simp [sA,dal,DV.pv,alA],by simp [sA,dlb,DC.pv,lF]⟩
 have eI:∀N r nn k dds cont,dal (sI T c0 Lr N r nn k dds cont).al=alI (T:=T) N r nn k/\dlb (sI T c0 Lr N r nn k dds cont).L=lM (DV.pvs c0) (dlb Lr) (DV.pvs dds) cont:=fun N r nn k dds cont=>
  ⟨by simp [sI,dal,DV.pv,alI,alA],by simp [sI,dlb,DC.pv,lM]⟩
 have e3:∀N r nn dds cont,dal (s3 T c0 Lr N r nn dds cont).al=(3,.rw rlab 0 nn T.sz none)::alA N r/\dlb (s3 T c0 Lr N r nn dds cont).L=lM (DV.pvs c0) (dlb Lr) (DV.pvs dds) cont:=fun N r nn dds cont=>
  ⟨by simp [s3,dal,DV.pv,alA],by simp [s3,dlb,DC.pv,lM]⟩
 have al4A:∀(N:Nat) (r:Int),al4 N N r=alA N r:=fun _ _=>rfl
 have hl50:lget Lr rlab=none:=hks.2.2.2.1
 have hset:∀(dds:List DV) (cont cont':List T.T),lset (lM (DV.pvs c0) (dlb Lr) (DV.pvs dds) cont) rlab (some (fl (el T) cont'))=lM (DV.pvs c0) (dlb Lr) (DV.pvs dds) cont':=fun dds cont cont'=>by
  have e1:lM (DV.pvs c0) (dlb Lr) (DV.pvs dds) cont=((0,some (DV.pvs c0))::(1,some (DV.pvs dds))::dlb Lr)++[(rlab,some (fl (el T) cont))]:=rfl
  have e2:lget ((0,some (DV.pvs c0))::(1,some (DV.pvs dds))::dlb Lr) rlab=none:=by
   simp only [lget];rw [if_neg (by decide),if_neg (by decide),an,hl50];rfl
  rw [e1,qg _ e2];rfl
 refine KX h0 hm hG hE hf hb hk hc hT hL hA hks ?_ ?_ ?_ ?_ ?_ hv
 ·have:=GX (K:=fun l=>lget (dlb (inL ar ls (ab _ a))) l≠none) hm hG hE kin q0 ⟨okAl (by intro p hp;simp [sA0] at hp;subst hp;trivial),okLb (by
   intro p hp
   simp only [sA0,List.mem_cons] at hp
   rcases hp with rfl | rfl | hp
   ·exact hc0
   ·trivial
   ·exact hLr p hp)⟩
  have eL:dlb (sA0 T c0 Lr rows).L=lF (DV.pvs c0) (dlb Lr) rows []:=by simp [sA0,dlb,DC.pv,lF]
  rw [eL] at this
  exact this
 ·intro r rs tl ht
  obtain ⟨tl',rfl,ht'⟩:=toD ht
  have:=Kq (K:=fun l=>lget (dlb (inL ar ls (ab _ a))) l≠none) hm hG hE kin (q1 rows.length r rs tl') (okA _ _ _ _ ht')
  rw [(eA _ _ rs tl').1,(eA _ _ _ _).2] at this
  exact this
 ·intro hle r rs tl ht hr0 hrN
  obtain ⟨tl',rfl,ht'⟩:=toD ht
  have:=GX (K:=fun l=>lget (dlb (inL ar ls (ab _ a))) l≠none) hm hG hE kin (q8 rows.length r rs tl') (okA _ _ _ _ ht')
  rw [(eA _ _ rs tl').1,(eA _ _ _ _).2,rc (by omega) (by omega)] at this
  exact this
 ·intro nn r ds cont hdl hdr
  subst h2
  exact Kn hT1 he hs hrow hn hdl hdr
 ·intro nn r dds cont hdo hn1 hcn
  refine Ht hn1 ?_ ?_ ?_ ?_ hcn
  ·intro cont
   have:=Ew (K:=fun l=>lget (dlb (inL ar ls (ab _ a))) l≠none) hm hG hE kin (q3 rows.length r nn dds cont) (ok3 _ _ _ _ _ hdo)
   rw [(e3 _ _ _ dds cont).1,(e3 _ _ _ _ _).2] at this
   exact this
  ·intro k cont
   have:=IP (K:=fun l=>lget (dlb (inL ar ls (ab _ a))) l≠none) hm hG hE kin (q4 rows.length r nn k dds cont) (okI _ _ _ _ _ _ hdo)
   rw [(eI _ _ _ _ dds cont).1,(eI _ _ _ _ _ _).2] at this
   exact this
  ·intro k cont hk hcl
   have:=IN (K:=fun l=>lget (dlb (inL ar ls (ab _ a))) l≠none) hm hG hE kin (q5 rows.length r nn k dds cont (by omega) (by omega) hcl) (okI _ _ _ _ _ _ hdo)
   rw [(eI _ _ _ _ dds cont).1,(eI _ _ _ _ _ _).2,hset] at this
   exact this
  ·intro k cont hk0 hk1
   have:=Ew (K:=fun l=>lget (dlb (inL ar ls (ab _ a))) l≠none) hm hG hE kin (q7 rows.length r nn k dds cont) (okI _ _ _ _ _ _ hdo)
   rw [(eI _ _ _ _ dds cont).1,(eI _ _ _ _ _ _).2,rc (by omega) (by omega)] at this
   exact this
end Go.SH
namespace Go.SH
variable [SentA]
def plP:PV->Bool
 | .dead=>true
 | .int _ _=>true
 | .bool _=>true
 | .raw _=>true
 | _=>false
def plX:PV->Bool
 | .agg cs=>cs.all plP
 | x=>plP x
theorem VR.plP {w w':World} {σ σ':Sig} {av av':Nat->Prop} {x:PV} {v:Value} (h:VR w σ av x v) (hp:plP x=true):VR w' σ' av' x v:=by
 cases h <;> first | (simp [Go.SH.plP] at hp;done) | constructor
theorem VR.plX {w w':World} {σ σ':Sig} {av av':Nat->Prop} {x:PV} {v:Value} (h:VR w σ av x v) (hp:plX x=true):VR w' σ' av' x v:=by
 cases h with
 | agg cs hl hv=>exact .agg cs hl fun i x v hx hc=>(hv i x v hx hc).plP (List.all_eq_true.1 hp x (List.mem_of_getElem? hx))
 | dead=>exact .dead
 | int k n=>exact .int k n
 | bool b=>exact .bool b
 | raw l=>exact .raw l
 | _=>simp [Go.SH.plX,Go.SH.plP] at hp
structure KeepX (B:Nat) (W W':World):Prop where
 size:W.heap.size<=W'.heap.size
 cel:∀(β:Nat) c T fr,W.heap[β]?=some (Obj.cells c T fr)->W'.heap[β]?=some (Obj.cells c T fr)
 low:∀(β:Nat),β<B->W'.heap[β]?=W.heap[β]?
 out:W'.os=W.os/\W'.output=W.output/\W'.tape=W.tape
theorem KeepX.put {B:Nat} {W:World} {l:Nat} {o:Obj} (o':Obj) (hl:W.heap[l]?=some o) (ho:∀c T fr,o≠Obj.cells c T fr) (hB:B<=l):KeepX B W (W.putObj l o'):=by
 refine ⟨by simp,fun β c T fr h=>?_,fun β hb=>World.putObj_heap_other (by omega),rfl,rfl,rfl⟩
 by_cases e:β=l
 ·subst e;rw [hl] at h;simp at h;exact (ho _ _ _ h).elim
 ·exact (World.putObj_heap_other e).trans h
theorem KeepX.grown {B:Nat} {W W':World} (h:W.grownBy W' none) (hB:B<=W.heap.size):KeepX B W W':=
 ⟨h.size,fun β c T fr hc=>(h.block β (Array.getElem?_eq_some_iff.1 hc).1 (by simp)).trans hc,fun β hb=>h.block β (by omega) (by simp),h.os,h.output,h.tape⟩
theorem Imm.keepX {B:Nat} {W W':World} {av av':Nat->Prop} {β add:Nat} {cs:List Value} (h:Imm W av β add cs) (hk:KeepX B W W') (hav:¬av β->¬av' β):Imm W' av' β add cs:=
 ⟨Nat.lt_of_lt_of_le h.lt hk.size,hav h.na,fun i v hv=>by
  have h1:=h.cell i v hv
  cases ho:W.heap[β]? with
  | none=>simp [World.cell?,ho] at h1
  | some o=>
   cases o with
   | cells c T fr=>have h2:=hk.cel β c T fr ho;simp only [World.cell?,ho,Option.bind_some] at h1;simp only [World.cell?,h2,Option.bind_some];exact h1
   | _=>simp [World.cell?,ho] at h1⟩
theorem BR.keepX {B:Nat} {W W':World} {σ:Sig} {A:Nat->Prop} {L:Lb} (h:BR W σ A L) (hk:KeepX B W W') (hp:∀l cells,lget L l=some (some cells)->cells.all plX=true):BR W' σ A L:=by
 refine ⟨fun l cells hl=>?_,h.inj,h.dom,fun β hA=>⟨Nat.lt_of_lt_of_le (h.lo β hA).1 hk.size,(h.lo β hA).2⟩,?_⟩
 ·rcases h.all l cells hl with h1 | ⟨β,add,size,c,T,fr,hB⟩
  ·exact .inl h1
  ·exact .inr ⟨β,add,size,c,T,fr,⟨hB.sig,hk.cel _ _ _ _ hB.heap,hB.hsz,hB.fits,fun i x hx=>let ⟨v,h1,h2⟩:=hB.vals i x hx;⟨v,h1,h2.plX (List.all_eq_true.1 (hp l cells hl) x (List.mem_of_getElem? hx))⟩,hB.frs⟩⟩
 ·exact h.fr.mono hk.size (fun _ _ _ k=>k) (fun q β add k=>by
   obtain ⟨c,T,fr,e⟩:=h.fr.cel q β add k
   rw [hk.cel _ _ _ _ e,e]) fun _ _ _ _ k=>k
def GV (G:List (Nat×List PV)) (W:World) (σ:Sig) (av:Nat->Prop):Prop:=∀g cells,lget G g=some cells->VR W σ av (.rop cells 0) (.pointer (some ⟨g,0,none⟩))
theorem VR.rop_inv {W:World} {σ:Sig} {av:Nat->Prop} {cells:List PV} {off β k:Nat} (h:VR W σ av (.rop cells off) (.pointer (some ⟨β,k,none⟩))) :
  ∃add cs,k=add+off/\Imm W av β add cs/\cells.length=cs.length/\∀(i:Nat) (x:PV) (v:Value),cells[i]?=some x->cs[i]?=some v->VR W σ av x v:=by
 cases h with
 | rop cs him hl hv=>exact ⟨_,cs,rfl,him,hl,hv⟩
def plG:PV->Bool
 | .xc _ _=>true
 | x=>plX x
theorem VR.plG {B:Nat} {W W':World} {σ σ':Sig} {av av':Nat->Prop} {x:PV} {v:Value} (h:VR W σ av x v) (hp:plG x=true) (hk:KeepX B W W') (hav:∀β,¬av β->¬av' β):VR W' σ' av' x v:=by
 cases h with
 | xc g cs T fr v h0 hn hh=>exact .xc g cs T fr v h0 (hav _ hn) (hk.cel _ _ _ _ hh)
 | agg cs hl hv=>exact (VR.agg cs hl hv).plX (by simpa [Go.SH.plG] using hp)
 | dead=>exact .dead
 | int k n=>exact .int k n
 | bool b=>exact .bool b
 | raw l=>exact .raw l
 | _=>simp [Go.SH.plG,Go.SH.plX,Go.SH.plP] at hp
theorem GV.keepX {B:Nat} {G:List (Nat×List PV)} {W W':World} {σ σ':Sig} {av av':Nat->Prop} (hG:∀g cells,lget G g=some cells->cells.all plG=true) (h:GV G W σ av) (hk:KeepX B W W') (hav:∀β,¬av β->¬av' β):GV G W' σ' av':=by
 intro g cells hg
 obtain ⟨add,cs,e,him,hl,hv⟩:=(h g cells hg).rop_inv
 rw [show (⟨g,0,none⟩:Addr)=⟨g,add+0,none⟩ from by rw [<-e]]
 exact .rop cs (him.keepX hk (hav _)) hl fun i x v hx hc=>(hv i x v hx hc).plG (List.all_eq_true.1 (hG g cells hg) x (List.mem_of_getElem? hx)) hk hav
theorem KeepX.refl (B:Nat) (W:World):KeepX B W W:=⟨Nat.le_refl _,fun _ _ _ _ h=>h,fun _ _=>rfl,rfl,rfl,rfl⟩
theorem Grow.keepX {w W W':World} {σ σ':Sig} {L L':Lb} (h:Grow top w σ L W σ' L') (hk:KeepX w.heap.size W W') (hf:∀q β add,σ.fam q β add->β<w.heap.size):Grow top w σ L W' σ' L':=
 ⟨Nat.le_trans h.size hk.size,h.sig,fun β hb hn=>⟨(h.keep β hb hn).1,(hk.low β hb).trans (h.keep β hb hn).2⟩,⟨hk.out.1.trans h.out.1,hk.out.2.1.trans h.out.2.1,hk.out.2.2.trans h.out.2.2⟩,
  fun _ q β add k=>⟨(h.fam trivial q β add k).1,(hk.low β (hf _ _ _ k)).trans (h.fam trivial q β add k).2⟩⟩
abbrev GV0 (E:Env) (W:World):Prop:=GV E.G W sig0 (fun _=>False)
def YAt (P:Program) (l:Nat) (args:Array Value) (W:World) (R:Ending->World->Prop):Prop:=
 ∃fn tmps assign body,(Instr.yield l args).run P W = .ok (.round l fn tmps assign body) W/\RoundIn (fen none) 0 P l fn tmps assign body W R
def CL (E:Env) (f:FuncId) (caps:List PV) (xs:List Int):Prop:=
 ∀(W:World) (cs:List Value) (l:Nat) (J Jx:List Int->World->Prop),caps.length=cs.length->(∀(i:Nat) (x:PV) (v:Value),caps[i]?=some x->cs[i]?=some v->VR W sig0 (fun _=>False) x v)->GV0 E W ->
   (∀pre W W',J pre W->W.grownBy W' none->J pre W')->(∀pre W W',Jx pre W->W.grownBy W' none->Jx pre W') ->
   (∀pre x W1,J pre W1->(pre++[x]) <+: xs->GV0 E W1->YAt E.P l #[.int .i64 x] W1 fun e W'=>GV0 E W'/\((e = .returned (.bool true)/\J (pre++[x]) W')\/(e = .returned (.bool false)/\Jx (pre++[x]) W'))) ->
   J [] W->Calls E.P f (#[.func (.yield l) #[] #[]]++cs.toArray) W fun e W'=>(∃v,e = .returned v)/\(J xs W'\/∃pre,pre <+: xs/\Jx pre W')
def Hw:Option (Option Nat)->Exit
 | none=>.normal
 | some none=>.ret
 | some (some i)=>.exit i
def DZ:Option Nat->Code
 | none=>.ret
 | some i=>.exit i
def runX {S:Type} (step:S->Int->S×Option (Option Nat)):S->List Int->S×Option (Option Nat)
 | s,[]=>(s,none)
 | s,x::xs=>match step s x with
  | (s',none)=>runX step s' xs
  | (s',some e)=>(s',some e)
theorem BG {S:Type} {step:S->Int->S×Option (Option Nat)}:∀{s s':S} (xs ys:List Int),runX step s xs=(s',none)->runX step s (xs++ys)=runX step s' ys
 | s,s',[],ys,h=>by simp [runX] at h;subst h;rfl
 | s,s',x::xs,ys,h=>by
  simp only [runX,List.cons_append] at h ⊢
  cases e:step s x with
  | mk s1 o=>cases o with
   | none=>rw [e] at h;exact BG xs ys h
   | some c=>rw [e] at h;simp at h
theorem zd {S:Type} {step:S->Int->S×Option (Option Nat)}:∀{s s':S} {c:Option Nat} (xs ys:List Int),runX step s xs=(s',some c)->runX step s (xs++ys)=(s',some c)
 | s,s',c,[],ys,h=>by simp [runX] at h
 | s,s',c,x::xs,ys,h=>by
  simp only [runX,List.cons_append] at h ⊢
  cases e:step s x with
  | mk s1 o=>cases o with
   | none=>rw [e] at h;exact zd xs ys h
   | some c=>rw [e] at h;exact h
end Go.SH
namespace Go.SH
variable [SentA]
section
variable {E:Env} {K:Nat->Prop} {n:Nat} {al:Al} {Q:Exit->Al->Lb->Prop}
abbrev rcL (fn:Nat) (tmps:Array Value) (p:Nat) (assign body:Code) (dfr:Nat) (st:LoopState) (pe:Option Code):Loop:={ state:=st,pending:=pe,fn:=fn,tmps:=tmps,params:=#[p],assign:=assign,body:=body,defers:=dfr }
theorem zY {b:Nat} (hro:E.ro=none) (hmb:E.mb=some b) (hGp:∀g cells,lget E.G g=some cells->cells.all plG=true)
  {g:Operand} {assign body:Code} {f:FuncId} {p lab:Nat} {tc:List PV} (hpn:p<n) (hg:xev E.G al g=some (.fn f [.ptr lab 0])) (hrun:∀args w,(callFunc f args).run E.P w = .ok (.enter f args) w)
  {S:Type} (Lst:S->Lb) (step:S->Int->S×Option (Option Nat)) {s0:S} (hlab:lget (Lst s0) lab=some (some tc)) (hne:tc≠[])
  (hpl:∀s l cells,lget (Lst s) l=some (some cells)->cells.all plX=true) {xs:List Int} (hit:CL E f [.rop tc 0] xs) (al1:Int->Al) (hy:∀s,hasL (Lst s) ylab=false)
  (hw1:∀s x,∀q∈al1 x,am (hasL (Lst s)) q.2=true)
  (hA:∀s x l,AW (E.on (some l) none) top n assign (fun e al' L'=>e = .normal/\al'=al1 x/\L'=Lst s) ((p,.int .i64 x)::al) (Lst s))
  (hB:∀s x l,AW (E.on (some l) none) top n body (fun e al' L'=>e=Hw (step s x).2/\L'=Lst (step s x).1) (al1 x) (Lst s))
  (hq:Q (Hw (runX step s0 xs).2) al (Lst (runX step s0 xs).1)):AW E K n (.rangeFunc g #[p] assign body) Q al (Lst s0):=by
 intro A w σ a r t
 have hgv:=aQ r (fun _ _ h=>h) hg
 generalize hge:a.eval g=gv at hgv
 cases hgv with
 | fn f' cs hlc hcv=>
  obtain ⟨c0,rfl⟩:∃c0,cs=[c0]:=by
   cases cs with
   | nil=>simp at hlc
   | cons c r=>cases r with
    | nil=>exact ⟨c,rfl⟩
    | cons _ _=>simp at hlc
  have hc0:=hcv 0 _ c0 rfl rfl
  obtain ⟨β,add,size,hσ,rfl⟩:∃β add size,σ lab=some (β,add,size)/\c0 = .pointer (some ⟨β,add+0,none⟩):=by
   cases hc0 with
   | ptr h=>exact ⟨_,_,_,h,rfl⟩
  rcases r.blocks.all lab tc hlab with ⟨h1,_⟩ | ⟨β',add',size',c,T,fr,hBk⟩
  ·rw [hσ] at h1;simp at h1
  have hs:=hBk.sig
  rw [hσ] at hs;simp at hs
  obtain ⟨rfl,rfl,rfl⟩:=hs
  have hfam:∀q β add,σ.fam q β add->β<w.heap.size:=fun q β add k=>(r.blocks.fr.fam q β add k).1
  have hnl:∀(q:Loop) c T fr,Obj.loop q≠Obj.cells c T fr:=fun _ _ _ _ h=>by cases h
  have hnd:∀q c T fr,Obj.deferred q≠Obj.cells c T fr:=fun _ _ _ _ h=>by cases h
  let core:S->World->Sig->Prop:=fun s W σ'=>BR W σ' A (Lst s)/\Grow top w σ (Lst s0) W σ' (Lst s)/\GV E.G W σ' (avo A σ' (Lst s))
  have coreK:∀{s W W' σ'},core s W σ'->KeepX w.heap.size W W'->core s W' σ':=fun h hk=>⟨h.1.keepX hk (hpl _),h.2.1.keepX hk hfam,h.2.2.keepX hGp hk (fun _ h=>h)⟩
  rw [hro]
  refine wpIn_rangeFunc fun fn _=>?_
  obtain ⟨W1,hW1⟩:∃W1,(w.alloc (.deferred (some []))).alloc (.loop (rcL fn a.tmps p assign body w.heap.size .ready none))=W1:=⟨_,rfl⟩
  have hk1:KeepX w.heap.size w W1:=by
   rw [<-hW1]
   have k1:=KeepX.grown (B:=w.heap.size) (World.grownBy_alloc w (.deferred (some [])) none) (Nat.le_refl _)
   have k2:=KeepX.grown (B:=w.heap.size) (World.grownBy_alloc (w.alloc (.deferred (some []))) (.loop (rcL fn a.tmps p assign body w.heap.size .ready none)) none) (by simp)
   exact ⟨Nat.le_trans k1.size k2.size,fun β c T fr h=>k2.cel _ _ _ _ (k1.cel _ _ _ _ h),fun β h=>(k2.low β h).trans (k1.low β h),rfl,rfl,rfl⟩
  have hl1:W1.heap[w.heap.size+1]?=some (.loop (rcL fn a.tmps p assign body w.heap.size .ready none)):=by
   rw [<-hW1];have:=World.alloc_heap_new (w.alloc (.deferred (some []))) (.loop (rcL fn a.tmps p assign body w.heap.size .ready none));rwa [World.size_alloc] at this
  have hd1:W1.heap[w.heap.size]?=some (.deferred (some [])):=by
   rw [<-hW1];exact ((World.grownBy_alloc (w.alloc (.deferred (some []))) (.loop (rcL fn a.tmps p assign body w.heap.size .ready none)) none).block w.heap.size (by simp) (by simp)).trans (World.alloc_heap_new w _)
  have hcore1:core s0 W1 σ:=coreK ⟨r.blocks,Grow.refl _ _ _ _,r.globals⟩ hk1
  refine ⟨w.heap.size+1,[{ target:=.collected w.heap.size,args:=#[] }],W1,{ target:=.fn (.func f) #[.pointer (some ⟨β,add+0,none⟩)],args:=#[.func (.yield (w.heap.size+1)) #[] #[]] },W1,f,(#[.func (.yield (w.heap.size+1)) #[] #[]]++[Value.pointer (some ⟨β,add+0,none⟩)].toArray),W1,by rw [<-hW1];exact run_enterLoop_outer _ _ _ _ _,?_,fun _ _=>trivial,?_,fun h=>by simp [Fence.wide] at h,pT ?_⟩
  ·simp only [resolve,hge]
   simp [go_sem,Deferred.ofValue]
  ·simp [invoke,go_sem,hrun]
  let J:List Int->World->Prop:=fun pre W=>∃s σ',runX step s0 pre=(s,none)/\core s W σ'/\W.heap[w.heap.size+1]?=some (.loop (rcL fn a.tmps p assign body w.heap.size .ready none))/\W.heap[w.heap.size]?=some (.deferred (some []))
  let Jx:List Int->World->Prop:=fun pre W=>∃s c σ',runX step s0 pre=(s,some c)/\core s W σ'/\W.heap[w.heap.size+1]?=some (.loop (rcL fn a.tmps p assign body w.heap.size .done (some (DZ c))))/\W.heap[w.heap.size]?=some (.deferred (some []))
  have grownK:∀{s W W' σ'},core s W σ'->W.grownBy W' none->KeepX w.heap.size W W':=fun h hg=>KeepX.grown hg h.2.1.size
  have oldB:∀{W W':World} {k:Nat} {o:Obj},W.grownBy W' none->W.heap[k]?=some o->W'.heap[k]?=some o:=fun hg h=>(hg.block _ (Array.getElem?_eq_some_iff.1 h).1 (by simp)).trans h
  refine (hit W1 [.pointer (some ⟨β,add+0,none⟩)] (w.heap.size+1) J Jx rfl ?_ (GV.keepX hGp r.globals hk1 (fun _ _ h=>h)) ?_ ?_ ?_ ⟨s0,σ,rfl,hcore1,hl1,hd1⟩).mono ?_
  ·intro i x v hx hv
   cases i with
   | succ i=>simp at hx
   | zero=>
    simp at hx hv;subst hx;subst hv
    have hf:=hBk.fits
    have hsz:=hBk.hsz
    have hlen:((c.toList.drop add).take tc.length).length=tc.length:=by simp;omega
    have hcell:∀(i:Nat) (v:Value),((c.toList.drop add).take tc.length)[i]?=some v->c[add+i]?=some v:=fun i v h=>by
     have hi:i<tc.length:=by rw [<-hlen];exact (List.getElem?_eq_some_iff.1 h).1
     rw [List.getElem?_take_of_lt hi,List.getElem?_drop] at h
     simpa using h
    have h2:=hk1.cel _ _ _ _ hBk.heap
    show VR W1 sig0 (fun _=>False) (.rop tc 0) (.pointer (some ⟨β,add+0,none⟩))
    refine .rop ((c.toList.drop add).take tc.length) ⟨(Array.getElem?_eq_some_iff.1 h2).1,fun h=>h,fun i v h=>?_⟩ hlen.symm fun i x v hx hv=>?_
    ·simp only [World.cell?,h2,Option.bind_some]
     exact hcell i v h
    ·obtain ⟨v',e1,e2⟩:=hBk.vals i x hx
     have:=hcell i v hv
     rw [e1] at this;simp at this;subst this
     exact e2.plX (List.all_eq_true.1 (hpl _ _ _ hlab) x (List.mem_of_getElem? hx))
  ·rintro pre W W' ⟨s,σ',h1,h2,h3,h4⟩ hg
   exact ⟨s,σ',h1,coreK h2 (grownK h2 hg),oldB hg h3,oldB hg h4⟩
  ·rintro pre W W' ⟨s,c,σ',h1,h2,h3,h4⟩ hg
   exact ⟨s,c,σ',h1,coreK h2 (grownK h2 hg),oldB hg h3,oldB hg h4⟩
  ·-- a round
   rintro pre x W ⟨s,σ',h1,h2,h3,h4⟩ hpre _
   obtain ⟨hbr,hgr,hgl⟩:=h2
   refine ⟨fn,a.tmps.setIfInBounds p (.int .i64 x),assign,body,by simpa using run_yield (P:=E.P) (args:=#[.int .i64 x]) h3 (by simp),roundIn_of_wpIn trivial ?_⟩
   refine wpIn_mono (hA s x (w.heap.size+1) A W σ' { tmps:=a.tmps.setIfInBounds p (.int .i64 x),defers:=[] } ⟨fun u y hu=>?_,hbr,hgl,rfl⟩ (by simp [t])) ?_
   ·simp only [lget] at hu
    split at hu
    ·rename_i e;subst e;simp at hu;subst hu
     exact ⟨_,by simp [t,hpn],.int _ _⟩
    ·rename_i e
     obtain ⟨v,e1,e2⟩:=r.tmps u y hu
     exact ⟨v,by rw [Array.getElem?_setIfInBounds_ne e,e1],e2.grow hgr⟩
   ·rintro e a1 w1 ⟨al',L',σ1,⟨rfl,rfl,rfl⟩,r1,g1,t1⟩
    have hlk:∀{W W':World} {σ σ':Sig} {L L':Lb} {k:Nat} {o:Obj},BR W σ A L->Grow top W σ L W' σ' L'->W.heap[k]?=some o->(∀c T fr,o≠Obj.cells c T fr)->W'.heap[k]?=some o:=fun hb hg hk hn=>
     (hg.keep _ (Array.getElem?_eq_some_iff.1 hk).1 (hb.notAv hk hn)).2.trans hk
    have l1:=hlk hbr g1 h3 (hnl _)
    have d1:=hlk hbr g1 h4 (hnd _)
    have c1:core s w1 σ1:=⟨r1.blocks,hgr.trans g1,r1.globals⟩
    refine ⟨_,run_beginRound l1 rfl,?_⟩
    have k2:=KeepX.put (B:=w.heap.size) (.loop { rcL fn a.tmps p assign body w.heap.size .ready none with state:=.busy }) l1 (hnl _) (by omega)
    have c2:=coreK c1 k2
    have l2:(w1.putObj (w.heap.size+1) (.loop { rcL fn a.tmps p assign body w.heap.size .ready none with state:=.busy })).heap[w.heap.size+1]?=some (.loop { rcL fn a.tmps p assign body w.heap.size .ready none with state:=.busy }):=World.putObj_heap_same (Array.getElem?_eq_some_iff.1 l1).1
    have d2:(w1.putObj (w.heap.size+1) (.loop { rcL fn a.tmps p assign body w.heap.size .ready none with state:=.busy })).heap[w.heap.size]?=some (.deferred (some [])):=(World.putObj_heap_other (by omega)).trans d1
    have hT:=Turn.put w1 (w.heap.size+1) (.loop { rcL fn a.tmps p assign body w.heap.size .ready none with state:=.busy })
    refine wpIn_mono (hB s x (w.heap.size+1) A _ σ1 a1 ⟨fun u y hu=>?_,c2.1,c2.2.2,r1.nodefer⟩ t1) ?_
    ·obtain ⟨v,e1,e2⟩:=r1.tmps u y hu
     exact ⟨v,e1,e2.turn (S:=hasL (Lst s)) hT l1 (hnl _) (.inr ⟨hy s,hw1 s x _ (ai hu)⟩)⟩
    rintro e a3 w3 ⟨al3,L3,σ3,⟨rfl,rfl⟩,r3,g3,t3⟩
    have l3:=hlk c2.1 g3 l2 (hnl _)
    have d3:=hlk c2.1 g3 d2 (hnd _)
    have c3:core (step s x).1 w3 σ3:=⟨r3.blocks,c2.2.1.trans g3,r3.globals⟩
    have fin:∀st pe,core (step s x).1 (w3.putObj (w.heap.size+1) (.loop (rcL fn a.tmps p assign body w.heap.size st pe))) σ3/\(w3.putObj (w.heap.size+1) (.loop (rcL fn a.tmps p assign body w.heap.size st pe))).heap[w.heap.size+1]?=some (.loop (rcL fn a.tmps p assign body w.heap.size st pe)) /\
      (w3.putObj (w.heap.size+1) (.loop (rcL fn a.tmps p assign body w.heap.size st pe))).heap[w.heap.size]?=some (.deferred (some []))/\GV0 E (w3.putObj (w.heap.size+1) (.loop (rcL fn a.tmps p assign body w.heap.size st pe))):=fun st pe=>by
     have k:=KeepX.put (B:=w.heap.size) (.loop (rcL fn a.tmps p assign body w.heap.size st pe)) l3 (hnl _) (by omega)
     exact ⟨coreK c3 k,World.putObj_heap_same (Array.getElem?_eq_some_iff.1 l3).1,(World.putObj_heap_other (by omega)).trans d3,GV.keepX hGp r3.globals k (fun _ _ h=>h)⟩
    have happ:runX step s0 (pre++[x])=((step s x).1,(step s x).2):=by
     rw [BG _ _ h1]
     simp only [runX]
     cases step s x with
     | mk s1 o=>cases o <;> rfl
    cases ho:(step s x).2 with
    | none=>
     obtain ⟨f1,f2,f3,f4⟩:=fin .ready none
     exact ⟨_,_,run_endRound none l3,f4,.inl ⟨rfl,_,σ3,by rw [happ,ho],f1,f2,f3⟩⟩
    | some c=>
     obtain ⟨f1,f2,f3,f4⟩:=fin .done (some (DZ c))
     cases c with
     | none=>exact ⟨_,_,run_endRound (some .ret) l3,f4,.inr ⟨rfl,_,none,σ3,by rw [happ,ho],f1,f2,f3⟩⟩
     | some i=>exact ⟨_,_,run_endRound (some (.exit i)) l3,f4,.inr ⟨rfl,_,some i,σ3,by rw [happ,ho],f1,f2,f3⟩⟩
  ·-- behind it
   have last:∀{s:S} {W:World} {σ':Sig} {pe:Option Code} {st:LoopState},core s W σ'->W.heap[w.heap.size+1]?=some (.loop (rcL fn a.tmps p assign body w.heap.size st pe))->W.heap[w.heap.size]?=some (.deferred (some [])) ->
     Rel E A (W.putObj (w.heap.size+1) (.loop (rcL fn a.tmps p assign body w.heap.size .exhausted pe))) σ' al (Lst s) { a with defers:=[{ target:=.collected w.heap.size,args:=#[] }]++a.defers }/\Grow top w σ (Lst s0) (W.putObj (w.heap.size+1) (.loop (rcL fn a.tmps p assign body w.heap.size .exhausted pe))) σ' (Lst s):=fun {s W σ' pe st} hc hl hd=>by
    have k:=KeepX.put (B:=w.heap.size) (.loop (rcL fn a.tmps p assign body w.heap.size .exhausted pe)) hl (hnl _) (by omega)
    have c4:=coreK hc k
    refine ⟨⟨fun u y hu=>let ⟨v,e1,e2⟩:=r.tmps u y hu;⟨v,e1,e2.grow c4.2.1⟩,c4.1,c4.2.2,?_⟩,c4.2.1⟩
    have r':=r.grow c4.1 c4.2.1
    have hm:=r'.nodefer
    have hm0:=r.nodefer
    rw [hmb] at hm hm0 ⊢
    obtain ⟨m1,m2,m3⟩:=hm
    obtain ⟨n1,n2,n3⟩:=hm0
    refine ⟨m1,fun d hd'=>?_,?_⟩
    ·rcases List.mem_append.1 hd' with hd' | hd'
     ·simp at hd';subst hd'
      exact ⟨w.heap.size,rfl,n1,(World.putObj_heap_other (by omega)).trans hd⟩
     ·exact m2 d hd'
    ·refine List.pairwise_cons.2 ⟨fun d hd'=>?_,m3⟩
     obtain ⟨r2,f1,f2,f3⟩:=n2 d hd'
     rw [f1]
     have:=(Array.getElem?_eq_some_iff.1 f3).1
     intro e;simp at e;omega
   rintro e W2 ⟨⟨v,rfl⟩,⟨s,σ',h1,h2,h3,h4⟩ | ⟨pre,⟨ys,rfl⟩,s,c,σ',h1,h2,h3,h4⟩⟩
   ·obtain ⟨f1,f2⟩:=last h2 h3 h4
    rw [h1] at hq
    exact ⟨none,_,run_endLoop h3 (by simp),al,Lst s,σ',hq,f1,f2.weaken fun _ _=>trivial,t⟩
   ·obtain ⟨f1,f2⟩:=last h2 h3 h4
    rw [zd _ ys h1] at hq
    refine ⟨some (DZ c),_,run_endLoop h3 (by simp),?_⟩
    cases c with
    | none=>exact wpIn_ret ⟨al,Lst s,σ',hq,f1,f2.weaken fun _ _=>trivial,t⟩
    | some i=>exact wpIn_exit ⟨al,Lst s,σ',hq,f1,f2.weaken fun _ _=>trivial,t⟩
end
end Go.SH
namespace Go.SH
variable [SentA]
theorem wd {F:Fence} {m:Nat} {P:Program} {o:Oper} {a:Act} {w:World} {next next':Act->World->Prop} {Q Q':Exit->Act->World->Prop} (h:o.wpIn F m P a w next Q)
  (hn:∀a w,next a w->next' a w) (hq:∀e a w,e ≠ .normal->Q e a w->Q' e a w):o.wpIn F m P a w next' Q':=by
 refine ⟨h.1,?_⟩
 have h2:=h.2
 unfold Oper.uponIn at *
 split at h2
 ·exact hn _ _ h2
 ·exact hn _ _ h2
 ·exact hn _ _ h2
 ·refine ⟨h2.1,h2.2.1,fun cs hr=>?_⟩
  obtain ⟨e,w',fr,he,rest⟩:=h2.2.2 cs hr
  refine ⟨e,w',fr,?_,rest⟩
  cases e with
  | returned v=>exact hn _ _ he
  | panicked ch=>exact hq _ _ _ (by simp) he
  | outgrown=>obtain ⟨a,w,h⟩:=he;exact ⟨a,w,hq _ _ _ (by simp) h⟩
 ·exact ⟨h2.1,h2.2.mono fun _ _=>hn _ _⟩
 ·refine ⟨h2.1,h2.2.mono ?_⟩
  rintro e w' he
  cases e with
  | returned v=>exact hn _ _ he
  | panicked ch=>exact hq _ _ _ (by simp) he
  | outgrown=>obtain ⟨a,w,h⟩:=he;exact ⟨a,w,hq _ _ _ (by simp) h⟩
 ·exact hq _ _ _ (by simp) h2
 ·exact h2.elim
theorem nK {F:Fence} {m:Nat} {P:Program} {ops:Array Oper} {Q Qp:Exit->Act->World->Prop} {r:List Oper} (hq:∀e a w,Qp e a w->e = .normal/\wpListIn F m P ops Q r a w) :
  ∀(p:List Oper) (a:Act) (w:World),wpListIn F m P ops Qp p a w->wpListIn F m P ops Q (p++r) a w
 | [],a,w,h=>(hq _ _ _ h).2
 | o::p,a,w,h=>by
  simp only [wpListIn,List.cons_append] at h ⊢
  split at h
  ·rename_i hw;rw [if_pos hw]
   exact wd h (nK hq p) fun e a w hne h=>(hne (hq _ _ _ h).1).elim
  ·rename_i hw;rw [if_neg hw]
   exact ⟨h.1,nK hq p _ _ h.2⟩
def RA (E:Env) (n:Nat) (al:Al) (a:Act) (W:World):Prop:=Rel (E.on none none) (fun _=>False) W sig0 al [] a/\a.tmps.size=n
def plA (al:Al):Bool:=al.all fun p=>plX p.2
theorem BRz (W:World):BR W sig0 (fun _=>False) []:=⟨fun l cells h=>by simp [lget] at h,fun l l' c c' β a s a' s' h=>by simp [lget] at h,fun l x h=>by simp [sig0] at h,fun β h=>h.elim,FR.none fun _ _ _ h=>h⟩
theorem BS (β:Nat):¬avOf sig0 [] β:=by
 rintro (⟨l,c,_,_,h,_⟩ | ⟨q,add,h⟩)
 ·simp [lget] at h
 ·exact h
section
variable {E:Env} {n:Nat} {al al1:Al} {a:Act} {W:World}
theorem J7 (hGp:∀g cells,lget E.G g=some cells->cells.all plG=true) {σ':Sig} (r:Rel (E.on none none) (fun _=>False) W σ' al [] a) (t:a.tmps.size=n) (hp:plA al=true):RA E n al a W:=
 ⟨⟨fun s x hx=>let ⟨v,h1,h2⟩:=r.tmps s x hx;⟨v,h1,h2.plX (List.all_eq_true.1 hp _ (ai hx))⟩,BRz W,GV.keepX hGp r.globals (KeepX.refl 0 W) (fun β _ h=>h.elim (fun h=>h) fun h=>BS β h),r.nodefer⟩,t⟩
theorem RA.sub (h:RA E n al a W) (hs:∀p∈al1,lget al p.1=some p.2):RA E n al1 a W:=
 ⟨⟨fun s x hx=>h.1.tmps s x (hs _ (ai hx)),h.1.blocks,h.1.globals,h.1.nodefer⟩,h.2⟩
theorem RA.gv (h:RA E n al a W) (hGp:∀g cells,lget E.G g=some cells->cells.all plG=true):GV0 E W:=GV.keepX hGp h.1.globals (KeepX.refl 0 W) fun _ _ h=>h
theorem xF {W':World} {σ':Sig} (g:Grow top W sig0 [] W' σ' []):W.grownBy W' none:=⟨g.out.1,g.out.2.2,g.out.2.1,g.size,fun k hk _=>(g.keep k hk (BS k)).2⟩
theorem lV (hGp:∀g cells,lget E.G g=some cells->cells.all plG=true) {c:Code} (h:AW (E.on none none) top n c (fun e al' L'=>e = .normal/\al'=al1/\L'=[]) al []) (hp:plA al1=true) (ra:RA E n al a W) :
  c.wpIn (fen none) 0 E.P (fun e a' W'=>e = .normal/\RA E n al1 a' W'/\W.grownBy W' none) a W:=by
 refine wpIn_mono (h _ W sig0 a ra.1 ra.2) ?_
 rintro e a' W' ⟨al',L',σ',⟨rfl,rfl,rfl⟩,r',g',t'⟩
 exact ⟨rfl,J7 hGp r' t' hp,xF g'⟩
theorem Bb (hGp:∀g cells,lget E.G g=some cells->cells.all plG=true) {ops:Array Oper} {rest:List Oper} (h:AWl (E.on none none) top n ops rest (fun e al' L'=>e = .normal/\al'=al1/\L'=[]) al []) (hp:plA al1=true) (ra:RA E n al a W) :
  wpListIn (fen none) 0 E.P ops (fun e a' W'=>e = .normal/\RA E n al1 a' W'/\W.grownBy W' none) rest a W:=by
 refine cF ?_ _ _ _ (h _ W sig0 a ra.1 ra.2)
 rintro e a' W' ⟨al',L',σ',⟨rfl,rfl,rfl⟩,r',g',t'⟩
 exact ⟨rfl,J7 hGp r' t' hp,xF g'⟩
theorem xz {p:Nat->Prop} (h:∃k,p k):∃k,p k/\∀j,p j->k<=j:=by
 obtain ⟨k,hk⟩:=h
 induction k using Nat.strongRecOn with
 | _ k ih=>
  by_cases h:∃j,j<k/\p j
  ·obtain ⟨j,h1,h2⟩:=h;exact ih j h1 h2
  ·exact ⟨k,hk,fun j hj=>Nat.le_of_not_lt fun h1=>h ⟨j,h1,hj⟩⟩
theorem wI {F:Fence} {m:Nat} {P:Program} {Q:Exit->Act->World->Prop} {c:Code} (I:Nat->Act->World->Prop) {k:Nat} (h0:I k a W)
  (round:∀k a w,I k a w->c.wpIn F m P (Exit.then (fun a' w'=>∃j,j<k/\I j a' w') Q) a w):(Code.loop c).wpIn F m P Q a W:=by
 classical
 let μ:Act->World->Nat:=fun a w=>if h:∃k,I k a w then (xz h).choose else 0
 refine wpIn_loop (fun a w=>∃k,I k a w) μ ⟨k,h0⟩ fun a w hI=>?_
 have e:μ a w=(xz hI).choose:=dif_pos hI
 refine wpIn_mono (round _ a w (xz hI).choose_spec.1) fun e' a' w' q=>?_
 cases e' with
 | normal=>
  obtain ⟨j,hj,hI'⟩:=q
  refine ⟨⟨j,hI'⟩,?_⟩
  have e2:μ a' w'=(xz ⟨j,hI'⟩).choose:=dif_pos ⟨j,hI'⟩
  rw [e,e2]
  exact Nat.lt_of_le_of_lt ((xz ⟨j,hI'⟩).choose_spec.2 j hI') hj
 | _=>exact q
end
def mr (tz:Int->Option Int) (atf:Int->Int->Int) (nx:Int->Int) (ws:List Int):Nat->Nat->Int->Option (List Int)
 | 0,_,_=>none
 | k+1,i,w=>if w=0 then (match ws[i+1]? with
   | some w'=>mr tz atf nx ws k (i+1) w'
   | none=>some [])
  else (tz w).bind fun z=>if 200<=atf i z then some [] else (mr tz atf nx ws k i (nx w)).map (atf i z :: ·)
def outF (tz:Int->Option Int) (atf:Int->Int->Int) (nx:Int->Int) (ws:List Int) (k i:Nat):Option (List Int):=match ws[i]? with
 | some w=>mr tz atf nx ws k i w
 | none=>some []
end Go.SH
namespace Go.SH
variable [SentA]
section
variable {E:Env} {n:Nat}
def AO (l:Nat) (tc:List PV) (i:Int):Al:=[(0,.raw l),(6,.agg tc),(7,.int .i64 i)]
def AI (l:Nat) (tc:List PV) (i w:Int):Al:=(4,.int .u64 w)::(3,.int .i64 i)::AO l tc i
def A5 (l:Nat) (tc:List PV) (i w x:Int):Al:=(5,.int .i64 x)::AI l tc i w
abbrev is1 (al1:Al):Exit->Al->Lb->Prop:=fun e al' L'=>e = .normal/\al'=al1/\L'=[]
theorem GL (hGp:∀g cells,lget E.G g=some cells->cells.all plG=true) {ops:Array Oper} {rest:List Oper} {ty:TypeId} {pos:String} {after:Array Edge} {tys:Array TypeId} {l:Nat} {x:Int} {al:Al} {a:Act} {W:World}
  {Q:Exit->Act->World->Prop} {g:Option (Nat×Bool)} (hw:ge ops al ⟨some 27,.call ⟨.value (.tmp 25),#[.tmp 26],tys⟩,ty,pos,after,g⟩=some true) (h25:lget al 25=some (.raw l)) (h26:lget al 26=some (.int .i64 x)) (hn:27<n) (hp:plA al=true)
  (ra:RA E n al a W) {R:Bool->World->Prop} (hy:YAt E.P l #[.int .i64 x] W fun e W'=>GV0 E W'/\((e = .returned (.bool true)/\R true W')\/(e = .returned (.bool false)/\R false W')))
  (k:∀b a' W',RA E n ((27,.bool b)::al) a' W'->R b W'->wpListIn (fen none) 0 E.P ops Q rest a' W') :
  wpListIn (fen none) 0 E.P ops Q (⟨some 27,.call ⟨.value (.tmp 25),#[.tmp 26],tys⟩,ty,pos,after,g⟩::rest) a W:=by
 obtain ⟨v,e1,e2⟩:=ra.1.tmps 25 _ h25
 obtain ⟨u,e3,e4⟩:=ra.1.tmps 26 _ h26
 cases e2
 cases e4
 simp only [wpListIn]
 rw [if_pos (km ra.1 hw)]
 refine ⟨fun _ _=>trivial,?_⟩
 rw [Oper.semAt_eq _ _ _ (fun c h=>by cases h)]
 obtain ⟨fn,tmps,assign,body,hyl,hR⟩:=hy
 have g25:a.eval (.tmp 25) = .func (.yield l) #[] #[]:=lO e1
 have g26:a.eval (.tmp 26) = .int .i64 x:=lO e3
 have hrun:(execOp a.eval ⟨some 27,.call ⟨.value (.tmp 25),#[.tmp 26],tys⟩,ty,pos,after,g⟩).run E.P W = .ok (.round l fn tmps assign body) W:=by
  simp [execOp,resolve,Deferred.ofValue,g25,g26,invoke,hyl]
 rw [hrun,Oper.uponIn_round]
 refine ⟨fun h=>by simp [Fence.wide] at h,hR.mono ?_⟩
 have fin:∀b W',GV0 E W'->R b W'->wpListIn (fen none) 0 E.P ops Q rest (a.put (some 27) (.bool b)) W':=fun b W' hg hr=>by
  refine k b _ W' ⟨⟨fun s y hs=>?_,BRz W',GV.keepX hGp hg (KeepX.refl 0 W') (fun β _ h=>h.elim (fun h=>h) fun h=>BS β h),?_⟩,?_⟩ hr
  ·simp only [lget] at hs
   split at hs
   ·rename_i e;subst e;simp at hs;subst hs
    refine ⟨.bool b,?_,.bool b⟩
    simp [Act.put,ra.2,hn]
   ·rename_i e
    obtain ⟨v,f1,f2⟩:=ra.1.tmps s y hs
    refine ⟨v,?_,f2.plX (List.all_eq_true.1 hp _ (ai hs))⟩
    simp only [Act.put]
    rw [Array.getElem?_setIfInBounds_ne e];exact f1
  ·have:=ra.1.nodefer
   show CJ W' none (a.put (some 27) (.bool b)).defers
   rw [nY];exact this
  ·rw [kA];exact ra.2
 rintro e W' ⟨hg,⟨rfl,hr⟩ | ⟨rfl,hr⟩⟩
 ·exact fin true W' hg hr
 ·exact fin false W' hg hr
theorem I3 (h0:E.on none none=E) (hGp:∀g cells,lget E.G g=some cells->cells.all plG=true) {f:FuncId} {fn:Func} {c:Code} (hf:E.P.funcs[f]?=some fn) (hb:fn.body=some c) (hres:fn.results.toList=[]) (hn:27<fn.ntmps)
  {tc:List PV} (htc:tc.all plP=true) {ws:List Int} (hws:ws.length=4) {tz:Int->Option Int} {atf:Int->Int->Int} {nx:Int->Int} {r0 r1 r2 r3 r4 r5 r7:Code} {ops:Array Oper} {id:Nat} {p1 p2 p4:List Oper} {ty:TypeId} {pos:String} {after:Array Edge} {tys:Array TypeId} {g:Option (Nat×Bool)}
  (hc:c = .seq r0 (.block 0 (.loop (.seq r1 (.seq (.cond (.tmp 8) .skip (.exit 0)) (.seq (.block 1 (.seq r2 (.block 2 (.loop (.seq (.seq r3 (.cond (.tmp 12) .skip (.exit 2))) (.seq (.block 3 (.seq r5 (.seq (.region id ops false) (.cond (.tmp 29) .ret .skip)))) r4)))))) r7))))))
  (hops:ops.toList=p1++(p2++(⟨some 27,.call ⟨.value (.tmp 25),#[.tmp 26],tys⟩,ty,pos,after,g⟩::p4)))
  (hw:∀l i w x,ge ops ((25,.raw l)::(26,.int .i64 x)::(24,.bool false)::A5 l tc i w x) ⟨some 27,.call ⟨.value (.tmp 25),#[.tmp 26],tys⟩,ty,pos,after,g⟩=some true)
  (q0:∀l,AW E top fn.ntmps r0 (is1 (AO l tc 0)) [(0,.raw l),(1,.rop tc 0)] [])
  (q1:∀l i,AW E top fn.ntmps r1 (is1 ((8,.bool (decide (i<4)))::AO l tc i)) (AO l tc i) [])
  (q2:∀l (i:Nat) w,ws[i]?=some w->AW E top fn.ntmps r2 (is1 (AI l tc i w)) (AO l tc i) [])
  (q3:∀l i w,AW E top fn.ntmps r3 (is1 ((12,.bool (w !=0))::AI l tc i w)) (AI l tc i w) [])
  (q5:∀l i w z,tz w=some z->AW E top fn.ntmps r5 (is1 (A5 l tc i w (atf i z))) (AI l tc i w) [])
  (k1:∀l i w x,AWl E top fn.ntmps ops p1 (is1 ((24,.bool (decide (x>=200)))::A5 l tc i w x)) (A5 l tc i w x) [])
  (k2:∀l i w x,AWl E top fn.ntmps ops (p2++(⟨some 27,.call ⟨.value (.tmp 25),#[.tmp 26],tys⟩,ty,pos,after,g⟩::p4)) (is1 ((29,.bool true)::A5 l tc i w x)) ((24,.bool true)::A5 l tc i w x) [])
  (k3:∀l i w x,AWl E top fn.ntmps ops p2 (is1 ((25,.raw l)::(26,.int .i64 x)::(24,.bool false)::A5 l tc i w x)) ((24,.bool false)::A5 l tc i w x) [])
  (k4:∀l i w x b,AWl E top fn.ntmps ops p4 (is1 ((29,.bool (!b))::A5 l tc i w x)) ((27,.bool b)::(25,.raw l)::(26,.int .i64 x)::(24,.bool false)::A5 l tc i w x) [])
  (q4:∀l i w x,AW E top fn.ntmps r4 (is1 (AI l tc i (nx w))) (A5 l tc i w x) [])
  (q7:∀l i,AW E top fn.ntmps r7 (is1 (AO l tc (IntKind.wrap .i64 (i+1)))) (AO l tc i) [])
  {k:Nat} {full:List Int} (hfull:outF tz atf nx ws k 0=some full):CL E f [.rop tc 0] full:=by
 intro W0 cs l J Jx hlc hcv hgv hJ hJx hround hj0
 have pl0:∀i,plA (AO l tc i)=true:=fun i=>by simp [plA,AO,plX,plP,htc]
 have plI:∀i w,plA (AI l tc i w)=true:=fun i w=>by simp [plA,AI,AO,plX,plP,htc]
 have pl5:∀i w x,plA (A5 l tc i w x)=true:=fun i w x=>by simp [plA,A5,AI,AO,plX,plP,htc]
 have pc:∀{al:Al} {t:Nat} {x:PV},plX x=true->plA al=true->plA ((t,x)::al)=true:=fun h1 h2=>by simp only [plA,List.all_cons,Bool.and_eq_true];exact ⟨h1,h2⟩
 have tail:∀{al:Al} {t:Nat} {x:PV},lget al t=none->∀p∈al,lget al p.1=some p.2->lget ((t,x)::al) p.1=some p.2:=fun h p hp h2=>by
  simp only [lget]
  split
  ·rename_i e;subst e;rw [h] at h2;simp at h2
  ·exact h2
 let Fin:Exit->Act->World->Prop:=fun e a W=>(e = .normal\/e = .ret)/\(∃al,RA E fn.ntmps al a W)/\(J full W\/∃pre,pre <+: full/\Jx pre W)
 obtain ⟨c0,rfl⟩:∃c0,cs=[c0]:=by
  cases cs with
  | nil=>simp at hlc
  | cons c r=>cases r with
   | nil=>exact ⟨c,rfl⟩
   | cons _ _=>simp at hlc
 refine calls_of_wp hf hb ((wpIn_wide (n:=0)).1 (wpIn_mono (Q:=Fin) ?_ ?_))
 rotate_left
 ·rintro e a W ⟨he,⟨al,hra⟩,hfin⟩
  obtain ⟨v,h1,h2⟩:=gl (fn:=fn) hra.1 (xs:=[]) (by rw [hres];rfl)
  have hd:a.defers=[]:=hra.1.nodefer
  rcases he with rfl | rfl <;> exact ⟨hd,v,h1,⟨v,rfl⟩,hfin⟩
 have ra0:RA E fn.ntmps [(0,.raw l),(1,.rop tc 0)] { tmps:=(#[.func (.yield l) #[] #[]]++[c0].toArray)++Array.replicate (fn.ntmps-(#[Value.func (.yield l) #[] #[]]++[c0].toArray).size) undef,defers:=[] } W0:=by
  refine ⟨⟨fun s x hs=>?_,BRz W0,GV.keepX hGp hgv (KeepX.refl 0 W0) (fun β _ h=>h.elim (fun h=>h) fun h=>BS β h),rfl⟩,?_⟩
  ·simp only [lget] at hs
   split at hs
   ·rename_i e;subst e;simp at hs;subst hs
    exact ⟨_,by rw [Array.getElem?_append_left (by simp)];rfl,.raw l⟩
   ·split at hs
    ·rename_i e;subst e;simp at hs;subst hs
     refine ⟨c0,by rw [Array.getElem?_append_left (by simp)];rfl,?_⟩
     have:=hcv 0 _ c0 rfl rfl
     cases this with
     | rop cs him hl hv=>exact .rop cs ⟨him.lt,fun h=>h.elim (fun h=>h) fun h=>BS _ h,him.cell⟩ hl fun i x v hx hc=>(hv i x v hx hc).plP (List.all_eq_true.1 htc x (List.mem_of_getElem? hx))
    ·simp at hs
  ·simp;omega
 subst hc
 refine wpIn_seq (wpIn_mono (lV hGp (h0▸q0 l) (pl0 0) ra0) ?_)
 rintro e a W ⟨rfl,ra,hg⟩
 let IO:Nat->Act->World->Prop:=fun m a W=>∃(i:Nat) (pre rest:List Int),i<=4/\RA E fn.ntmps (AO l tc i) a W/\J pre W/\pre++rest=full/\outF tz atf nx ws m i=some rest
 refine wpIn_block (wI IO (k:=k) ⟨0,[],full,by omega,ra,hJ _ _ _ hj0 hg,rfl,hfull⟩ ?_)
 rintro m a W ⟨i,pre,rest,hi,ra,hj,hpre,hout⟩
 refine wpIn_seq (wpIn_mono (lV hGp (h0▸q1 l i) (pc rfl (pl0 i)) ra) ?_)
 rintro e a W' ⟨rfl,ra,hg⟩
 have hj:=hJ _ _ _ hj hg
 have ra8:=ra.1.tmps 8 _ rfl
 obtain ⟨v8,e8,hv8⟩:=ra8
 cases hv8
 refine wpIn_seq (wpIn_cond_split (lO e8) (fun hb=>wpIn_skip ?_) fun hb=>wpIn_exit ?_)
 rotate_left
 ·-- all words are done
  have hi4:i=4:=by have:=of_decide_eq_false hb;omega
  subst hi4
  have:outF tz atf nx ws m 4=some []:=by simp [outF,hws]
  rw [this] at hout;simp at hout;subst hout
  show Fin .normal a W'
  refine ⟨.inl rfl,⟨_,ra⟩,.inl ?_⟩
  rw [<-hpre,List.append_nil];exact hj
 ·have hi4:i<4:=by have:=of_decide_eq_true hb;omega
  obtain ⟨w0,hw0⟩:∃w,ws[i]?=some w:=⟨ws[i]'(by omega),List.getElem?_eq_getElem (by omega)⟩
  have ra:=ra.sub (al1:=AO l tc i) fun p hp=>by
   simp only [AO,List.mem_cons,List.not_mem_nil,or_false] at hp
   rcases hp with rfl | rfl | rfl <;> rfl
  show (Code.seq (.block 1 _) r7).wpIn _ _ _ _ a W'
  refine wpIn_seq (wpIn_block (wpIn_seq (wpIn_mono (lV hGp (h0▸q2 l i w0 hw0) (plI i w0) ra) ?_)))
  rintro e a W2 ⟨rfl,ra,hg⟩
  have hj:=hJ _ _ _ hj hg
  have hst:mr tz atf nx ws m i w0=some rest:=by simpa [outF,hw0] using hout
  let II:Nat->Act->World->Prop:=fun j a W=>∃(w:Int) (pre rest:List Int),j<=m/\RA E fn.ntmps (AI l tc i w) a W/\J pre W/\pre++rest=full/\mr tz atf nx ws j i w=some rest
  refine wpIn_block (wI II (k:=m) ⟨w0,pre,rest,Nat.le_refl _,ra,hj,hpre,hst⟩ ?_)
  clear ra hj hpre hst hout
  rintro j a W ⟨w,pre,rest,hjm,ra,hj,hpre,hst⟩
  refine wpIn_seq (wpIn_seq (wpIn_mono (lV hGp (h0▸q3 l i w) (pc rfl (plI i w)) ra) ?_))
  rintro e a W' ⟨rfl,ra,hg⟩
  have hj:=hJ _ _ _ hj hg
  obtain ⟨v12,e12,hv12⟩:=ra.1.tmps 12 _ rfl
  cases hv12
  cases j with
  | zero=>simp [mr] at hst
  | succ j=>
  refine wpIn_cond_split (lO e12) (fun hb=>wpIn_skip ?_) fun hb=>wpIn_exit ?_
  rotate_left
  ·-- this word is done
   have hw:w=0:=by simpa using hb
   subst hw
   simp only [mr,if_pos] at hst
   have ra:=ra.sub (al1:=AO l tc i) fun p hp=>by
    simp only [AO,List.mem_cons,List.not_mem_nil,or_false] at hp
    rcases hp with rfl | rfl | rfl <;> rfl
   simp only [Exit.then,Exit.inBlock,if_pos]
   show (Code.wpIn _ _ _ r7 _ a W')
   refine wpIn_mono (lV hGp (h0▸q7 l i) (pl0 _) ra) ?_
   rintro e a W3 ⟨rfl,ra,hg⟩
   rw [rc (by omega) (by omega)] at ra
   refine ⟨j,by omega,i+1,pre,rest,by omega,by exact_mod_cast ra,hJ _ _ _ hj hg,hpre,?_⟩
   simpa [outF] using hst
  ·have hwz:w≠0:=by simpa using hb
   have ra:=ra.sub (al1:=AI l tc i w) fun p hp=>by
    simp only [AI,AO,List.mem_cons,List.not_mem_nil,or_false] at hp
    rcases hp with rfl | rfl | rfl | rfl | rfl <;> rfl
   simp only [mr,if_neg hwz] at hst
   cases hz:tz w with
   | none=>rw [hz] at hst;simp at hst
   | some z=>
   rw [hz] at hst
   simp only [Option.bind_some] at hst
   show (Code.seq (.block 3 _) r4).wpIn _ _ _ _ a W'
   refine wpIn_seq (wpIn_block (wpIn_seq (wpIn_mono (lV hGp (h0▸q5 l i w z hz) (pl5 i w _) ra) ?_)))
   rintro e a W3 ⟨rfl,ra,hg⟩
   have hj:=hJ _ _ _ hj hg
   generalize hx:atf i z=x at ra hst
   show (Code.seq _ _).wpIn _ _ _ _ a W3
   refine wpIn_seq (wpIn_region_list ?_)
   rw [hops]
   have behind:∀b a W,RA E fn.ntmps ((29,.bool (!b))::A5 l tc i w x) a W->(b=true->x<200/\J (pre++[x]) W)->(b=false->J full W\/∃pre,pre <+: full/\Jx pre W) ->
     (Code.cond (.tmp 29) .ret .skip).wpIn (fen none) 0 E.P (Exit.inBlock 3 (Exit.then (Code.wpIn (fen none) 0 E.P r4 (Exit.then (fun a' w'=>∃j',j'<j+1/\II j' a' w') (Exit.inBlock 2 (Exit.inBlock 1 (Exit.then (Code.wpIn (fen none) 0 E.P r7 (Exit.then (fun a' w'=>∃j,j<m/\IO j a' w') (Exit.inBlock 0 Fin))) (Exit.then (fun a' w'=>∃j,j<m/\IO j a' w') (Exit.inBlock 0 Fin))))))) (Exit.then (fun a' w'=>∃j',j'<j+1/\II j' a' w') (Exit.inBlock 2 (Exit.inBlock 1 (Exit.then (Code.wpIn (fen none) 0 E.P r7 (Exit.then (fun a' w'=>∃j,j<m/\IO j a' w') (Exit.inBlock 0 Fin))) (Exit.then (fun a' w'=>∃j,j<m/\IO j a' w') (Exit.inBlock 0 Fin)))))))) a W:=fun b a W ra hb1 hb2=>by
    obtain ⟨v29,e29,hv29⟩:=ra.1.tmps 29 _ rfl
    cases hv29
    refine wpIn_cond_split (lO e29) (fun hb=>wpIn_ret ?_) fun hb=>wpIn_skip ?_
    ·exact ⟨.inr rfl,⟨_,ra⟩,hb2 (by simpa using hb)⟩
    ·obtain ⟨hx2,hj⟩:=hb1 (by simpa using hb)
     rw [if_neg (by omega)] at hst
     obtain ⟨rest',hr1,hr2⟩:=Option.map_eq_some_iff.1 hst
     have ra:=ra.sub (al1:=A5 l tc i w x) fun p hp=>by
      simp only [A5,AI,AO,List.mem_cons,List.not_mem_nil,or_false] at hp
      rcases hp with rfl | rfl | rfl | rfl | rfl | rfl <;> rfl
     show Code.wpIn _ _ _ r4 _ a W
     refine wpIn_mono (lV hGp (h0▸q4 l i w x) (plI i _) ra) ?_
     rintro e a W4 ⟨rfl,ra,hg⟩
     refine ⟨j,by omega,nx w,pre++[x],rest',by omega,ra,hJ _ _ _ hj hg,?_,hr1⟩
     rw [<-hpre,<-hr2,List.append_assoc];rfl
   refine nK (Qp:=fun e a' W'=>e = .normal/\RA E fn.ntmps ((24,.bool (decide (x>=200)))::A5 l tc i w x) a' W'/\W3.grownBy W' none) ?_ p1 a W3 (Bb hGp (h0▸k1 l i w x) (pc rfl (pl5 i w x)) ra)
   rintro e a W4 ⟨rfl,ra,hg⟩
   have hj:=hJ _ _ _ hj hg
   refine ⟨rfl,?_⟩
   by_cases hx2:200<=x
   ·rw [show decide (x>=200)=true from decide_eq_true hx2] at ra
    refine cF ?_ _ _ _ (Bb hGp (h0▸k2 l i w x) (pc rfl (pl5 i w x)) ra)
    rintro e a W5 ⟨rfl,ra,hg⟩
    refine behind false a W5 ra (by simp) fun _=>.inl ?_
    rw [if_pos hx2] at hst
    simp at hst;subst hst
    rw [<-hpre,List.append_nil]
    exact hJ _ _ _ hj hg
   ·rw [show decide (x>=200)=false from decide_eq_false hx2] at ra
    rw [if_neg hx2] at hst
    obtain ⟨rest',hr1,hr2⟩:=Option.map_eq_some_iff.1 hst
    have hfp:(pre++[x]) <+: full:=⟨rest',by rw [<-hpre,<-hr2,List.append_assoc];rfl⟩
    refine nK (Qp:=fun e a' W'=>e = .normal/\RA E fn.ntmps ((25,.raw l)::(26,.int .i64 x)::(24,.bool false)::A5 l tc i w x) a' W'/\W4.grownBy W' none) ?_ p2 a W4 (Bb hGp (h0▸k3 l i w x) (pc rfl (pc rfl (pc rfl (pl5 i w x)))) ra)
    rintro e a W5 ⟨rfl,ra,hg⟩
    have hj:=hJ _ _ _ hj hg
    refine ⟨rfl,?_⟩
    refine GL hGp (hw l i w x) rfl rfl hn (pc rfl (pc rfl (pc rfl (pl5 i w x)))) ra (R:=fun b W'=>if b=true then J (pre++[x]) W' else Jx (pre++[x]) W') ?_ ?_
    ·have:=hround pre x W5 hj hfp (ra.gv hGp)
     simpa using this
    ·intro b a W6 ra hR
     refine cF ?_ _ _ _ (Bb hGp (h0▸k4 l i w x b) (pc rfl (pl5 i w x)) ra)
     rintro e a W7 ⟨rfl,ra,hg⟩
     cases b with
     | true=>exact behind true a W7 ra (fun _=>⟨by omega,hJ _ _ _ (by simpa using hR) hg⟩) (by simp)
     | false=>exact behind false a W7 ra (by simp) fun _=>.inr ⟨_,hfp,hJx _ _ _ (by simpa using hR) hg⟩
end
end Go.SH
namespace Go.SH
variable [SentA]
def iz:Code->Bool
 | .region _ _ false=>true
 | _=>false
def aO:Code->Array Oper
 | .region _ ops _=>ops
 | _=>#[]
section
variable {E:Env} {K:Nat->Prop} {n:Nat} {al:Al} {L:Lb}
theorem pcx {c:Code} (ts:List Nat) (al1:Al) (L1:Lb) (hr:iz c=true) (h:fZ E.P E.G n (aO c) ts al L=some (al1,L1)):AW E K n c (fun e al' L'=>e = .normal/\al'=al1/\L'=L1) al L:=by
 unfold iz at hr
 split at hr
 ·exact JE ts al1 L1 h ⟨rfl,rfl,rfl⟩
 ·simp at hr
theorem GQ {c:Code} (hr:iz c=true):∃id,c = .region id (aO c) false:=by
 unfold iz at hr
 split at hr
 ·exact ⟨_,rfl⟩
 ·simp at hr
theorem pcl {ops:Array Oper} {p:List Oper} (ts:List Nat) (al1:Al) (L1:Lb) (h:(xrun E.P E.G n ops p.length p al L).map (fun s=>(g5 ts s.1,s.2))=some (al1,L1)):AWl E K n ops p (fun e al' L'=>e = .normal/\al'=al1/\L'=L1) al L:=by
 simp only [Option.map_eq_some_iff,Prod.mk.injEq] at h
 obtain ⟨⟨al2,L2⟩,h1,h2,rfl⟩:=h
 refine nI p.length p al L al2 L2 h1 ?_
 rw [List.drop_length]
 exact CR ts al1 h2 ⟨rfl,rfl,rfl⟩
end
theorem vL {E:Env} {f:FuncId} {args:List PV} {v:PV} {LL:Lb} (h:dQ E f args [] fun r L'=>r=v/\L'=LL) (hp:plX v=true):Pure E f args v:=by
 intro A w σ cargs h1 h2 h3 h4
 refine (h A w σ cargs h1 h2 h3 h4).mono ?_
 rintro e w' ⟨r,c,L',σ',rfl,⟨rfl,rfl⟩,hv,hb,hg⟩
 have hna:∀β,¬avOf σ' L' β->¬avOf (⟨fun _=>none,σ'.fam⟩:Sig) [] β:=fun β hn h=>by
  rcases h with ⟨l,c,_,_,h,_⟩ | ⟨q,add,h⟩
  ·simp [lget] at h
  ·exact hn (.inr ⟨q,add,h⟩)
 refine ⟨r,c,[],⟨fun _=>none,σ'.fam⟩,rfl,⟨rfl,rfl⟩,hv.plX hp,⟨fun l cells h=>by simp [lget] at h,fun l l' c c' β a s a' s' h=>by simp [lget] at h,fun l x h=>by simp at h,fun β hA=>⟨(hb.lo β hA).1,hna β (hb.lo β hA).2⟩,hb.fr.mono (Nat.le_refl _) (fun _ _ _ k=>k) (fun _ _ _ _=>rfl) fun q β add k h=>?_⟩,⟨hg.size,fun l y hk=>(hk rfl).elim,fun β hβ hn=>⟨hna β (hg.keep β hβ hn).1,(hg.keep β hβ hn).2⟩,hg.out,fun k=>(k rfl).elim⟩⟩
 obtain ⟨l,c,_,_,h,_⟩:=h
 simp [lget] at h
def cAs:Code->Code
 | .rangeFunc _ _ a _=>a
 | _=>.skip
def cBd:Code->Code
 | .rangeFunc _ _ _ b=>b
 | _=>.skip
def LV:Code->Code
 | .cond _ a _=>a
 | _=>.skip
def wL (o:Oper):Array TypeId:=match o.op with
 | .call c=>c.argTypes
 | _=>#[]
section
variable {E:Env} {K:Nat->Prop} {n:Nat} {al:Al} {L:Lb} {Q:Exit->Al->Lb->Prop}
theorem pcut {c:Code} (hr:iz c=true) (k:Nat) (ts:List Nat) (al1:Al) (L1:Lb) (h:(xrun E.P E.G n (aO c) k (aO c).toList al L).map (fun s=>(g5 ts s.1,s.2))=some (al1,L1)) (h2:AWl E K n (aO c) ((aO c).toList.drop k) Q al1 L1):AW E K n c Q al L:=by
 obtain ⟨id,e⟩:=GQ hr
 simp only [Option.map_eq_some_iff,Prod.mk.injEq] at h
 obtain ⟨⟨al2,L2⟩,h1,h3,rfl⟩:=h
 rw [e]
 exact nJ (nI k _ al L al2 L2 h1 (Ih ts al1 h3 h2))
theorem pend {ops:Array Oper} {p:List Oper} (ts:List Nat) (al1:Al) (L1:Lb) (h:(xrun E.P E.G n ops p.length p al L).map (fun s=>(g5 ts s.1,s.2))=some (al1,L1)) (hq:Q .normal al1 L1):AWl E K n ops p Q al L:=by
 simp only [Option.map_eq_some_iff,Prod.mk.injEq] at h
 obtain ⟨⟨al2,L2⟩,h1,h2,rfl⟩:=h
 refine nI p.length p al L al2 L2 h1 ?_
 rw [List.drop_length]
 exact CR ts al1 h2 hq
theorem LN (hG:GOK E) {ops:Array Oper} {d:Nat} {fo arg:Operand} {tys:Array TypeId} {ty:TypeId} {pos:String} {after:Array Edge} {q:List Oper} {f:FuncId} {x v:PV} (ts:List Nat) (al1:Al) (L1:Lb)
  (hf:xev E.G al fo=some (.fn f [])) (hx:xevs E.G al [arg]=some [x]) (hrun:∀args w,(callFunc f args).run E.P w = .ok (.enter f args) w) (hP:Pure E f [x] v) (hp:ag (fun _=>false) [x]=true) (hd:decide (d<n)=true)
  (h:(xrun E.P E.G n ops q.length q ((d,v)::al) L).map (fun s=>(g5 ts s.1,s.2))=some (al1,L1)) (hq:Q .normal al1 L1) :
  AWl E K n ops (⟨some d,.call ⟨.value fo,#[arg],tys⟩,ty,pos,after,none⟩::q) Q al L:=
 Ka (Gf (xs:=[x]) (caps:=[]) hG hrun hf hx hP hp) hd rfl rfl (pend ts al1 L1 h hq)
end
def aR (c:Int):Int:=let m:=if 200<c then 200 else c;if m>1 then m else 1
def Bu (i z:Int):Int:=IntKind.wrap .i64 (IntKind.wrap .i64 (64*i)+z)
def Bt (w:Int):Int:=aj .and .u64 w (IntKind.wrap .u64 (w-1))
def lZ (at' c r x:Int):Int×Option (Option Nat):=if at'<x/\x<c then (x,some none) else (r,none)
def oQ (at' r x:Int):Int×Option (Option Nat):=if at'<=x then (r,some (some 0)) else (x,none)
def G3 (c:Int) (p:Int×Option (Option Nat)):Int:=match p.2 with
 | some _=>p.1
 | none=>IntKind.wrap .i64 (c-1)
def xi (at' c:Int) (l:List Int):Int:=G3 c (runX (lZ at' c) 0 l)
def vF (at':Int) (l:List Int):Int:=(runX (oQ at') 0 l).1
end Go.SH
namespace Go.SH
variable [SentA]
section
variable {E:Env}
theorem C9 (h0:E.on none none=E) {f:FuncId} {fn:Func} {c:Code} (hf:E.P.funcs[f]?=some fn) (hb:fn.body=some c) (hn:1<fn.ntmps) {tc:List PV} {fI:FuncId} (lab:Nat) {r0 r1:Code} (hc:c = .seq r0 (.seq r1 .ret)) (hr0:iz r0=true) (hr1:iz r1=true)
  {o0:Oper} {q0:List Oper} (hs:(aO r0).toList=o0::q0) (hd:o0.dst=some 1) (b:xop E.P E.G o0 [(0,.agg tc)] [] lab=some (.ptr lab 0,[(lab,some tc)])) (w:ge (aO r0) [(0,.agg tc)] o0=some true)
  (y:(xrun E.P E.G fn.ntmps (aO r0) q0.length q0 [(1,.ptr lab 0),(0,.agg tc)] [(lab,some tc)]).map (fun s=>(g5 [1] s.1,s.2))=some ([(1,.ptr lab 0)],[(lab,some tc)]))
  (x1:fZ E.P E.G fn.ntmps (aO r1) [2] [(1,.ptr lab 0)] [(lab,some tc)]=some ([(2,.fn fI [.ptr lab 0])],[(lab,some tc)])) (hx:xres E.P [(2,.fn fI [.ptr lab 0])] [(lab,some tc)] fn.results.toList=some [.fn fI [.ptr lab 0]]) :
  dQ E f [.agg tc] [] fun r L'=>r = .fn fI [.ptr lab 0]/\L'=[(lab,some tc)]:=by
 refine Bm hf hb (by simp;omega) ?_
 rw [h0,hc]
 show AW E _ _ _ _ [(0,.agg tc)] []
 obtain ⟨id,e⟩:=GQ hr0
 refine cK ?_
 rw [e]
 refine nJ ?_
 rw [hs]
 refine Ka (Gi rfl b) (by rw [hd];simpa [kJ] using hn) (by simp [lget]) w ?_
 rw [hd]
 refine pend (ops:=aO r0) [1] _ _ y ?_
 refine cK ((pcx [2] _ _ hr1 x1).mono ?_)
 rintro e al L ⟨rfl,rfl,rfl⟩
 exact yp ⟨trivial,_,hx,rfl,rfl⟩
def Ln (tc:List PV) (at' c r:Int):Lb:=[(0,some tc),(1,some [.int .i64 at']),(2,some [.int .i64 c]),(3,some [.int .i64 r])]
def Ln4 (tc:List PV) (at' c r:Int):Lb:=[(0,some tc),(1,some [.int .i64 at']),(2,some [.int .i64 c]),(3,some [.int .i64 r]),(4,some tc)]
def gK:Al:=[(4,.ptr 1 0),(5,.ptr 2 0),(6,.ptr 3 0)]
theorem IX (h0:E.on none none=E) (hG:GOK E) (hGp:∀g cells,lget E.G g=some cells->cells.all plG=true) {f:FuncId} {fn:Func} {c:Code} (hf:E.P.funcs[f]?=some fn) (hb:fn.body=some c) (hn:24<fn.ntmps) {tc:List PV} (htc:tc.all plP=true) (hne:tc≠[]) (hwt:ag (fun _=>false) tc=true)
  {fA fI:FuncId} (hrA:∀args w,(callFunc fA args).run E.P w = .ok (.enter fA args) w) (hrI:∀args w,(callFunc fI args).run E.P w = .ok (.enter fI args) w) (hAll:dQ E fA [.agg tc] [] fun r L'=>r = .fn fI [.ptr 4 0]/\L'=[(4,some tc)]) {full:List Int} (hit:CL E fI [.rop tc 0] full)
  {at' co:Int} {r0 r1 r2 r3 r4 r5 r6:Code} (hc:c = .seq r0 (.seq r1 (.seq (.seq r2 (.block 0 (.rangeFunc (.tmp 12) #[13] r3 (.block 1 (.seq r4 (.cond (.tmp 21) (.seq r5 .ret) .skip)))))) (.seq r6 .ret))))
  (hr:iz r0=true/\iz r1=true/\iz r2=true/\iz r3=true/\iz r4=true/\iz r5=true/\iz r6=true)
  (x0:fZ E.P E.G fn.ntmps (aO r0) [3,4,5,6] [(0,.agg tc),(1,.int .i64 at'),(2,.int .i64 co)] []=some ((3,.ptr 0 0)::gK,Ln tc at' co 0))
  (x1:fZ E.P E.G fn.ntmps (aO r1) [3,4,5,6] ((3,.ptr 0 0)::gK) (Ln tc at' co 0)=some ((3,.ptr 0 0)::gK,Ln tc at' (aR co) 0))
  (x2:(xrun E.P E.G fn.ntmps (aO r2) 1 (aO r2).toList ((3,.ptr 0 0)::gK) (Ln tc at' (aR co) 0)).map (fun s=>(g5 [11,4,5,6] s.1,s.2))=some ((11,.agg tc)::gK,Ln tc at' (aR co) 0))
  {fo:Operand} {tys:Array TypeId} {ty:TypeId} {pos:String} {after:Array Edge} (s2:(aO r2).toList.drop 1=[⟨some 12,.call ⟨.value fo,#[.tmp 11],tys⟩,ty,pos,after,none⟩]) (hfo:xev E.G ((11,.agg tc)::gK) fo=some (.fn fA []))
  (x3:∀r x,fZ E.P E.G fn.ntmps (aO r3) [7,4,5,6] ((13,.int .i64 x)::(12,.fn fI [.ptr 4 0])::gK) (Ln4 tc at' (aR co) r)=some ((7,.int .i64 x)::gK,Ln4 tc at' (aR co) r))
  (y1:∀r x,(xrun E.P E.G fn.ntmps (aO r4) 4 (aO r4).toList ((7,.int .i64 x)::gK) (Ln4 tc at' (aR co) r)).map (fun s=>(g5 [17,7,4,5,6] s.1,s.2))=some ((17,.bool (decide (x>at')))::(7,.int .i64 x)::gK,Ln4 tc at' (aR co) r))
  (y2:∀r x,(xrun E.P E.G fn.ntmps (aO r4) ((aO r4).toList.drop 4).length ((aO r4).toList.drop 4) ((17,.bool false)::(7,.int .i64 x)::gK) (Ln4 tc at' (aR co) r)).map (fun s=>(g5 [21,7,4,5,6] s.1,s.2))=some ((21,.bool false)::(7,.int .i64 x)::gK,Ln4 tc at' (aR co) r))
  (y3:∀r x,(xrun E.P E.G fn.ntmps (aO r4) ((aO r4).toList.drop 4).length ((aO r4).toList.drop 4) ((17,.bool true)::(7,.int .i64 x)::gK) (Ln4 tc at' (aR co) r)).map (fun s=>(g5 [21,7,4,5,6] s.1,s.2))=some ((21,.bool (decide (x<aR co)))::(7,.int .i64 x)::gK,Ln4 tc at' (aR co) r))
  (x5:∀r x,fZ E.P E.G fn.ntmps (aO r5) [6] ((21,.bool true)::(7,.int .i64 x)::gK) (Ln4 tc at' (aR co) r)=some ([(6,.ptr 3 0)],Ln4 tc at' (aR co) x))
  (x6:∀r,fZ E.P E.G fn.ntmps (aO r6) [6] ((12,.fn fI [.ptr 4 0])::gK) (Ln4 tc at' (aR co) r)=some ([(6,.ptr 3 0)],Ln4 tc at' (aR co) (IntKind.wrap .i64 (aR co-1))))
  (hx:∀al r,lget al 6=some (.ptr 3 0)->xres E.P al (Ln4 tc at' (aR co) r) fn.results.toList=some [.int .i64 r]) :
  Pure E f [.agg tc,.int .i64 at',.int .i64 co] (.int .i64 (xi at' (aR co) full)):=by
 refine vL (LL:=Ln4 tc at' (aR co) (xi at' (aR co) full)) ?_ rfl
 refine qY hf hb (by simp;omega) fun b=>?_
 have hxp:tc.all plX=true:=by
  rw [List.all_eq_true] at htc ⊢
  intro x hx
  have:=htc x hx
  cases x <;> first | exact this | (simp [plP] at this;done)
 have hpl:∀r l cells,lget (Ln4 tc at' (aR co) r) l=some (some cells)->cells.all plX=true:=fun r l cells h=>by
  have:=ai h
  simp only [Ln4,List.mem_cons,List.not_mem_nil,or_false,Prod.mk.injEq,Option.some.injEq] at this
  rcases this with ⟨_,rfl⟩ | ⟨_,rfl⟩ | ⟨_,rfl⟩ | ⟨_,rfl⟩ | ⟨_,rfl⟩ <;> first | exact hxp | rfl
 obtain ⟨i0,i1,i2,i3,i4,i5,i6⟩:=hr
 rw [hc]
 show AW (E.on none (some b)) _ _ _ _ [(0,.agg tc),(1,.int .i64 at'),(2,.int .i64 co)] []
 refine cK ((pcx (E:=E.on none (some b)) _ _ _ i0 x0).mono ?_)
 rintro e al L ⟨rfl,rfl,rfl⟩
 refine cK ((pcx (E:=E.on none (some b)) _ _ _ i1 x1).mono ?_)
 rintro e al L ⟨rfl,rfl,rfl⟩
 refine cK (cK (pcut (E:=E.on none (some b)) i2 1 _ _ _ x2 ?_))
 rw [s2]
 have hcall:AOp (E.on none (some b)) ⟨some 12,.call ⟨.value fo,#[.tmp 11],tys⟩,ty,pos,after,none⟩ ((11,.agg tc)::gK) [] (.fn fI [.ptr 4 0]) [(4,some tc)]:=
  u0 (xs:=[.agg tc]) (caps:=[]) (LL:=[(4,some tc)]) hG hfo rfl hrA hAll (by simp [ag,am,hwt];exact jl hwt) (fun l cells h=>by simp [lget] at h) (fun l h=>by simp [lget] at h) (fun l y h _=>⟨(4,some tc),by simp,by
   simp only [lget] at h
   split at h
   ·assumption
   ·simp at h⟩) (fun L l _=>by
   show lget (lset L 4 (some tc)) l=_
   rw [ao]
   simp only [List.cons_append,List.nil_append,lget]) (.inl rfl)
 refine pY hcall (by intro t h;simp at h;subst h;exact Nat.lt_trans (by decide) hn) (fun _ _ h=>h) (fun l y h=>by simp [lget] at h) (by intro p hp;simp at hp;subst hp;exact .inr rfl) rfl ?_
 refine qy ?_
 show AW (E.on none (some b)) _ _ (.block 0 _) _ ((12,.fn fI [.ptr 4 0])::(11,.agg tc)::gK) (Ln4 tc at' (aR co) 0)
 refine cY (Weak.sub (al':=(12,.fn fI [.ptr 4 0])::gK) fun p hp=>by
  simp only [gK,List.mem_cons,List.not_mem_nil,or_false] at hp
  rcases hp with rfl | rfl | rfl | rfl <;> rfl) ?_
 refine jL (zY (E:=E.on none (some b)) (s0:=(0:Int)) (b:=b) rfl rfl hGp (lab:=4) (tc:=tc) (Nat.lt_trans (by decide) hn) rfl hrI (fun r=>Ln4 tc at' (aR co) r) (lZ at' (aR co)) rfl hne hpl hit (fun x=>(7,.int .i64 x)::gK) (fun _=>rfl) (fun r x q hq=>?_) (fun r x l=>pcx (E:=E.on (some l) none) _ _ _ i3 (x3 r x)) (fun r x l=>?_) ?_)
 ·simp only [gK,List.mem_cons,List.not_mem_nil,or_false] at hq
  rcases hq with rfl | rfl | rfl | rfl <;> rfl
 ·refine jL (cK (pcut (E:=E.on (some l) none) i4 4 _ _ _ (y1 r x) ?_))
  by_cases h1:at'<x
  ·rw [show decide (x>at')=true from decide_eq_true h1]
   refine pend (E:=E.on (some l) none) _ _ _ (y3 r x) ?_
   by_cases h2:x<aR co
   ·have hs:lZ at' (aR co) r x=(x,some none):=if_pos ⟨h1,h2⟩
    rw [show decide (x<aR co)=true from decide_eq_true h2,hs]
    refine CS rfl (cK ((pcx (E:=E.on (some l) none) _ _ _ i5 (x5 r x)).mono ?_))
    rintro e al L ⟨rfl,rfl,rfl⟩
    exact yp ⟨rfl,rfl⟩
   ·have hs:lZ at' (aR co) r x=(r,none):=if_neg fun h=>h2 h.2
    rw [show decide (x<aR co)=false from decide_eq_false h2,hs]
    exact yq rfl (qz ⟨rfl,rfl⟩)
  ·rw [show decide (x>at')=false from decide_eq_false h1]
   refine pend (E:=E.on (some l) none) _ _ _ (y2 r x) ?_
   have hs:lZ at' (aR co) r x=(r,none):=if_neg fun h=>h1 h.1
   rw [hs]
   exact yq rfl (qz ⟨rfl,rfl⟩)
 ·have key:∀(s:Int) (o:Option (Option Nat)),runX (lZ at' (aR co)) 0 full=(s,o)->(o=none\/o=some none):=by
   have:∀(l:List Int) (r s:Int) (o:Option (Option Nat)),runX (lZ at' (aR co)) r l=(s,o)->(o=none\/o=some none):=by
    intro l
    induction l with
    | nil=>intro r s o h;simp [runX] at h;exact .inl h.2.symm
    | cons x l ih=>
     intro r s o h
     simp only [runX] at h
     cases hst:lZ at' (aR co) r x with
     | mk s1 o1=>
      rw [hst] at h
      cases o1 with
      | none=>exact ih _ _ _ h
      | some k=>
       simp at h
       unfold lZ at hst
       split at hst
       ·simp at hst;right;rw [<-h.2,<-hst.2]
       ·simp at hst
   exact fun s o h=>this full 0 s o h
  cases hrun:runX (lZ at' (aR co)) 0 full with
  | mk s o=>
   have hV:xi at' (aR co) full=G3 (aR co) (s,o):=by unfold xi;rw [hrun]
   rcases key s o hrun with rfl | rfl
   ·show AW (E.on none (some b)) _ _ (.seq r6 .ret) _ ((12,.fn fI [.ptr 4 0])::gK) (Ln4 tc at' (aR co) s)
    refine cK ((pcx (E:=E.on none (some b)) _ _ _ i6 (x6 s)).mono ?_)
    rintro e al L ⟨rfl,rfl,rfl⟩
    refine yp ⟨trivial,_,hx _ _ rfl,?_⟩
    rw [hV];exact ⟨rfl,rfl⟩
   ·refine ⟨trivial,_,hx _ _ rfl,?_⟩
    rw [hV];exact ⟨rfl,rfl⟩
def Lk (tc:List PV) (at' r:Int):Lb:=[(0,some tc),(1,some [.int .i64 at']),(2,some [.int .i64 r])]
def Lk3 (tc:List PV) (at' r:Int):Lb:=[(0,some tc),(1,some [.int .i64 at']),(2,some [.int .i64 r]),(3,some tc)]
def al35:Al:=[(3,.ptr 1 0),(5,.ptr 2 0)]
theorem Js (h0:E.on none none=E) (hG:GOK E) (hGp:∀g cells,lget E.G g=some cells->cells.all plG=true) {f:FuncId} {fn:Func} {c:Code} (hf:E.P.funcs[f]?=some fn) (hb:fn.body=some c) (hn:14<fn.ntmps) {tc:List PV} (htc:tc.all plP=true) (hne:tc≠[]) (hwt:ag (fun _=>false) tc=true)
  {fA fI:FuncId} (hrA:∀args w,(callFunc fA args).run E.P w = .ok (.enter fA args) w) (hrI:∀args w,(callFunc fI args).run E.P w = .ok (.enter fI args) w) (hAll:dQ E fA [.agg tc] [] fun r L'=>r = .fn fI [.ptr 3 0]/\L'=[(3,some tc)]) {full:List Int} (hit:CL E fI [.rop tc 0] full)
  {at':Int} {r0 r1 r2 r3 r4 r5 r6:Code} (hc:c = .seq r0 (.seq r1 (.seq (.seq r2 (.block 0 (.rangeFunc (.tmp 8) #[9] r3 (.block 1 (.seq (.seq r4 (.cond (.tmp 12) (.exit 0) .skip)) r5))))) (.seq r6 .ret))))
  (hr:iz r0=true/\iz r1=true/\iz r2=true/\iz r3=true/\iz r4=true/\iz r5=true/\iz r6=true)
  (x0:fZ E.P E.G fn.ntmps (aO r0) [2,3] [(0,.agg tc),(1,.int .i64 at')] []=some ([(2,.ptr 0 0),(3,.ptr 1 0)],[(0,some tc),(1,some [.int .i64 at'])]))
  (x1:fZ E.P E.G fn.ntmps (aO r1) [2,3,5] [(2,.ptr 0 0),(3,.ptr 1 0)] [(0,some tc),(1,some [.int .i64 at'])]=some ((2,.ptr 0 0)::al35,Lk tc at' 0))
  (x2:(xrun E.P E.G fn.ntmps (aO r2) 1 (aO r2).toList ((2,.ptr 0 0)::al35) (Lk tc at' 0)).map (fun s=>(g5 [7,3,5] s.1,s.2))=some ((7,.agg tc)::al35,Lk tc at' 0))
  {fo:Operand} {tys:Array TypeId} {ty:TypeId} {pos:String} {after:Array Edge} (s2:(aO r2).toList.drop 1=[⟨some 8,.call ⟨.value fo,#[.tmp 7],tys⟩,ty,pos,after,none⟩]) (hfo:xev E.G ((7,.agg tc)::al35) fo=some (.fn fA []))
  (x3:∀r x,fZ E.P E.G fn.ntmps (aO r3) [6,3,5] ((9,.int .i64 x)::(8,.fn fI [.ptr 3 0])::al35) (Lk3 tc at' r)=some ((6,.int .i64 x)::al35,Lk3 tc at' r))
  (x4:∀r x,fZ E.P E.G fn.ntmps (aO r4) [12,6,3,5] ((6,.int .i64 x)::al35) (Lk3 tc at' r)=some ((12,.bool (decide (x>=at')))::(6,.int .i64 x)::al35,Lk3 tc at' r))
  (x5:∀r x,fZ E.P E.G fn.ntmps (aO r5) [5] ((12,.bool false)::(6,.int .i64 x)::al35) (Lk3 tc at' r)=some ([(5,.ptr 2 0)],Lk3 tc at' x))
  (x6:∀r,fZ E.P E.G fn.ntmps (aO r6) [4] ((8,.fn fI [.ptr 3 0])::al35) (Lk3 tc at' r)=some ([(4,.int .i64 r)],Lk3 tc at' r))
  (hx:∀r,xres E.P [(4,.int .i64 r)] (Lk3 tc at' r) fn.results.toList=some [.int .i64 r]) :
  Pure E f [.agg tc,.int .i64 at'] (.int .i64 (vF at' full)):=by
 refine vL (LL:=Lk3 tc at' (vF at' full)) ?_ rfl
 refine qY hf hb (by simp;omega) fun b=>?_
 have hxp:tc.all plX=true:=by
  rw [List.all_eq_true] at htc ⊢
  intro x hx
  have:=htc x hx
  cases x <;> first | exact this | (simp [plP] at this;done)
 have hpl:∀r l cells,lget (Lk3 tc at' r) l=some (some cells)->cells.all plX=true:=fun r l cells h=>by
  have:=ai h
  simp only [Lk3,List.mem_cons,List.not_mem_nil,or_false,Prod.mk.injEq,Option.some.injEq] at this
  rcases this with ⟨_,rfl⟩ | ⟨_,rfl⟩ | ⟨_,rfl⟩ | ⟨_,rfl⟩ <;> first | exact hxp | rfl
 obtain ⟨i0,i1,i2,i3,i4,i5,i6⟩:=hr
 rw [hc]
 show AW (E.on none (some b)) _ _ _ _ [(0,.agg tc),(1,.int .i64 at')] []
 refine cK ((pcx (E:=E.on none (some b)) _ _ _ i0 x0).mono ?_)
 rintro e al L ⟨rfl,rfl,rfl⟩
 refine cK ((pcx (E:=E.on none (some b)) _ _ _ i1 x1).mono ?_)
 rintro e al L ⟨rfl,rfl,rfl⟩
 refine cK (cK (pcut (E:=E.on none (some b)) i2 1 _ _ _ x2 ?_))
 rw [s2]
 have hcall:AOp (E.on none (some b)) ⟨some 8,.call ⟨.value fo,#[.tmp 7],tys⟩,ty,pos,after,none⟩ ((7,.agg tc)::al35) [] (.fn fI [.ptr 3 0]) [(3,some tc)]:=
  u0 (xs:=[.agg tc]) (caps:=[]) (LL:=[(3,some tc)]) hG hfo rfl hrA hAll (by simp [ag,am,hwt];exact jl hwt) (fun l cells h=>by simp [lget] at h) (fun l h=>by simp [lget] at h) (fun l y h _=>⟨(3,some tc),by simp,by
   simp only [lget] at h
   split at h
   ·assumption
   ·simp at h⟩) (fun L l _=>by
   show lget (lset L 3 (some tc)) l=_
   rw [ao]
   simp only [List.cons_append,List.nil_append,lget]) (.inl rfl)
 refine pY hcall (by intro t h;simp at h;subst h;exact Nat.lt_trans (by decide) hn) (fun _ _ h=>h) (fun l y h=>by simp [lget] at h) (by intro p hp;simp at hp;subst hp;exact .inr rfl) rfl ?_
 refine qy ?_
 show AW (E.on none (some b)) _ _ (.block 0 _) _ ((8,.fn fI [.ptr 3 0])::(7,.agg tc)::al35) (Lk3 tc at' 0)
 refine cY (Weak.sub (al':=(8,.fn fI [.ptr 3 0])::al35) fun p hp=>by
  simp only [al35,List.mem_cons,List.not_mem_nil,or_false] at hp
  rcases hp with rfl | rfl | rfl <;> rfl) ?_
 refine jL (zY (E:=E.on none (some b)) (s0:=(0:Int)) (b:=b) rfl rfl hGp (lab:=3) (tc:=tc) (Nat.lt_trans (by decide) hn) rfl hrI (fun r=>Lk3 tc at' r) (oQ at') rfl hne hpl hit (fun x=>(6,.int .i64 x)::al35) (fun _=>rfl) (fun r x q hq=>?_) (fun r x l=>pcx (E:=E.on (some l) none) _ _ _ i3 (x3 r x)) (fun r x l=>?_) ?_)
 ·simp only [al35,List.mem_cons,List.not_mem_nil,or_false] at hq
  rcases hq with rfl | rfl | rfl <;> rfl
 ·refine jL (cK (cK ((pcx (E:=E.on (some l) none) _ _ _ i4 (x4 r x)).mono ?_)))
  rintro e al L ⟨rfl,rfl,rfl⟩
  by_cases h1:at'<=x
  ·have hs:oQ at' r x=(r,some (some 0)):=if_pos h1
   rw [show decide (x>=at')=true from decide_eq_true h1,hs]
   exact CS rfl (wD ⟨rfl,rfl⟩)
  ·have hs:oQ at' r x=(x,none):=if_neg h1
   rw [show decide (x>=at')=false from decide_eq_false h1,hs]
   refine yq rfl (qz ?_)
   refine (pcx (E:=E.on (some l) none) _ _ _ i5 (x5 r x)).mono ?_
   rintro e al L ⟨rfl,rfl,rfl⟩
   exact ⟨rfl,rfl⟩
 ·have key:∀(l:List Int) (r s:Int) (o:Option (Option Nat)),runX (oQ at') r l=(s,o)->(o=none\/o=some (some 0)):=by
   intro l
   induction l with
   | nil=>intro r s o h;simp [runX] at h;exact .inl h.2.symm
   | cons x l ih=>
    intro r s o h
    simp only [runX] at h
    cases hst:oQ at' r x with
    | mk s1 o1=>
     rw [hst] at h
     cases o1 with
     | none=>exact ih _ _ _ h
     | some k=>
      simp at h
      unfold oQ at hst
      split at hst
      ·simp at hst;right;rw [<-h.2,<-hst.2]
      ·simp at hst
  cases hrun:runX (oQ at') 0 full with
  | mk s o=>
   have hV:vF at' full=s:=by unfold vF;rw [hrun]
   have fin:AW (E.on none (some b)) (fun l=>lget ([]:Lb) l≠none) fn.ntmps (.seq r6 .ret) (Ends (E.on none (some b)).P fn fun r L'=>r = .int .i64 (vF at' full)/\L'=Lk3 tc at' (vF at' full)) ((8,.fn fI [.ptr 3 0])::al35) (Lk3 tc at' s):=by
    refine cK ((pcx (E:=E.on none (some b)) _ _ _ i6 (x6 s)).mono ?_)
    rintro e al L ⟨rfl,rfl,rfl⟩
    refine yp ⟨trivial,_,hx _,?_⟩
    rw [hV];exact ⟨rfl,rfl⟩
   rcases key full 0 s o hrun with rfl | rfl
   ·exact fin
   ·exact fin
end
end Go.SH
set_option maxRecDepth 100000
namespace Go.SH
theorem lB {α:Type} {a:List α} {c:Nat} {v:List α} (h:req (a.length*c<=aI) (some a)=some v) :
  (bif a.isEmpty then lU (some []) (req ((([]:List α)++a).length*c<=aI) <| req ((([]:List α)++a).length=(([]:List α)++a).length) (some (([]:List α)++a)))
   else req ((([]:List α)++a).length*c<=aI) <| req ((([]:List α)++a).length=(([]:List α)++a).length) (some (([]:List α)++a)))=some v:=by
 obtain ⟨hc,h⟩:=cR h
 show (bif a.isEmpty then lU (some []) (req (a.length*c<=aI) <| req (a.length=a.length) (some a)) else req (a.length*c<=aI) <| req (a.length=a.length) (some a))=some v
 rw [ae hc,ae rfl,h]
 cases a with
 | nil=>simp at h;subst h;unfold lU;rw [if_pos rfl];rfl
 | cons x xs=>rfl
def bc:List (Int×Int×Int):=[(768,879,0),(1155,1161,0),(1425,1469,0),(1552,1562,0),(1611,1631,0),(4352,4447,2),(6832,6911,0),(7616,7679,0),(8203,8207,0),(8400,8447,0),(11904,12350,2),(12353,42191,2),(44032,55203,2),(63744,64255,2),(65024,65039,0),(65056,65071,0),(65072,65135,2),(65280,65376,2),(65504,65510,2),(127744,128591,2),(129280,129535,2),(131072,262141,2)]
def kr:List UInt8:=[0,1,56,2,57,49,28,3,61,58,42,50,38,29,17,4,62,47,59,36,45,43,51,22,53,39,33,30,24,18,12,5,63,55,48,27,60,41,37,16,46,35,44,21,52,32,23,11,54,26,40,15,34,20,31,10,25,14,19,9,13,8,7,6]
abbrev Mc:ET:=.tp (.ti .i32) (.tp (.tl (.ti .i64)) (.tl (.ti .i32)))
abbrev ap:ET:=.tp (.ti .i64) (.tp (.ti .i64) (.tp (.ti .i64) Mc))
abbrev fb:ET:=.tp (.ti .i64) (.tp (.ti .i64) (.ti .i64))
abbrev aa:ET:=.tp (.tp (.ti .i32) (.ti .i32)) (.tp (.ti .i64) fb)
abbrev jK:ET:=.tp (.ti .u64) (.tp (.ti .u64) (.ti .u64))
abbrev E8:ET:=.tp (.ti .i64) (.tp (.ti .i64) (.tp fb (.tp .tb .tb)))
abbrev Md:ET:=.tp (.tp (.ti .u64) jK) (.tl (.ti .i32))
abbrev Ma:ET:=.tp (.ti .i64) (.tp (.tp E8 E8) Md)
abbrev L8:ET:=.tp fb (.tp (.ti .i64) (.tp (.ti .i64) Ma))
abbrev Mb:ET:=.tp (.ti .i64) (.tp (.ti .i64) (.tp .tb L8))
abbrev L9:ET:=.tp (.tl (.tl (.tp (.ti .i32) aa))) Mb
abbrev lW:ET:=.tp (.tl (.tl (.tp (.ti .i32) aa))) L9
abbrev Mj:ET:=.tp (.ti .i32) (.tp (.ti .i32) (.ti .i32))
def bw (f:Func):Code:=f.body.getD .skip
end Go.SH
