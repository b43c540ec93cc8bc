/- Part 2 of: ScreenAny: any screen, any change, as the document. -/
import Derived.Test.YtfadcigdmddndaaGreatDoorA
import Derived.Laws.Cover4
set_option linter.unusedVariables false
set_option linter.unusedSimpArgs false
noncomputable section
namespace Go.SH
open IntKind (i64 u64 i32 u8)
inductive WLe:Lb->Lb->Prop where
 | nil:WLe [] []
 | gone {l:Nat} {r r':Lb} (h:WLe r r'):WLe ((l,none)::r) ((l,none)::r')
 | cons {l:Nat} {xs ys:List PV} {r r':Lb} (h:CLe xs ys) (k:WLe r r'):WLe ((l,some xs)::r) ((l,some ys)::r')
theorem WLe.one {l:Nat} {xs ys:List PV} (h:CLe xs ys):WLe [(l,some xs)] [(l,some ys)]:=.cons h .nil
def LLe (L L':Lb):Prop:=∀l,(lget L l=none/\lget L' l=none)\/(lget L l=some none/\lget L' l=some none)\/∃xs ys,lget L l=some (some xs)/\lget L' l=some (some ys)/\CLe xs ys
theorem LLe.refl (L:Lb):LLe L L:=fun l=>by
 cases h:lget L l with
 | none=>exact .inl ⟨rfl,rfl⟩
 | some y=>cases y with
  | none=>exact .inr (.inl ⟨rfl,rfl⟩)
  | some xs=>exact .inr (.inr ⟨xs,xs,rfl,rfl,.refl _⟩)
theorem LLe.upd {wl wl':Lb} (h:WLe wl wl'):∀{L L':Lb},LLe L L'->LLe (lupd L wl) (lupd L' wl'):=by
 induction h with
 | nil=>exact fun h=>h
 | @gone l r r' _ ih=>
  intro L L' hL
  refine ih (L:=lset L l none) (L':=lset L' l none) fun k=>?_
  rw [ax,ax]
  split
  ·exact .inr (.inl ⟨rfl,rfl⟩)
  ·exact hL k
 | @cons l xs ys r r' hc _ ih=>
  intro L L' hL
  refine ih (L:=lset L l (some xs)) (L':=lset L' l (some ys)) fun k=>?_
  rw [ax,ax]
  split
  ·exact .inr (.inr ⟨xs,ys,rfl,rfl,hc⟩)
  ·exact hL k
theorem LLe.lav {L L':Lb} (h:LLe L L') (σ:Sig) (β:Nat):cG σ L' β<->cG σ L β:=by
 constructor
 ·rintro ⟨l,cells,a,s,h1,h2⟩
  rcases h l with ⟨_,h3⟩ | ⟨_,h3⟩ | ⟨xs,ys,h3,h4,_⟩
  ·rw [h3] at h1;simp at h1
  ·rw [h3] at h1;simp at h1
  ·exact ⟨l,xs,a,s,h3,h2⟩
 ·rintro ⟨l,cells,a,s,h1,h2⟩
  rcases h l with ⟨h3,_⟩ | ⟨h3,_⟩ | ⟨xs,ys,h3,h4,_⟩
  ·rw [h3] at h1;simp at h1
  ·rw [h3] at h1;simp at h1
  ·exact ⟨l,ys,a,s,h4,h2⟩
theorem LLe.av {L L':Lb} (h:LLe L L') (σ:Sig) (β:Nat):avOf σ L' β<->avOf σ L β:=or_congr (h.lav σ β) Iff.rfl
theorem LLe.avo {L L':Lb} (h:LLe L L') (A:Nat->Prop) (σ:Sig):Go.SH.avo A σ L'=Go.SH.avo A σ L:=by
 funext β
 show (A β\/avOf σ L' β)=(A β\/avOf σ L β)
 rw [propext (h.av σ β)]
theorem LLe.br {w:World} {σ:Sig} {A:Nat->Prop} {L L':Lb} (h:LLe L L') (hb:BR w σ A L):BR w σ A L':=by
 refine ⟨fun l ys hl=>?_,fun l l' c c' β a s a' s' h1 h2 h3 h4=>?_,fun l x hx=>?_,fun β hA=>⟨(hb.lo β hA).1,fun ha=>(hb.lo β hA).2 ((h.av σ β).1 ha)⟩,hb.fr.mono (Nat.le_refl _) (fun _ _ _ k=>k) (fun _ _ _ _=>rfl) fun _ β _ _=>(h.lav σ β).1⟩
 ·rcases h l with ⟨_,h3⟩ | ⟨_,h3⟩ | ⟨xs,ys',h3,h4,h5⟩
  ·rw [h3] at hl;simp at hl
  ·rw [h3] at hl;simp at hl
  ·rw [h4] at hl;simp at hl;subst hl
   rcases hb.all l xs h3 with ⟨h6,h7⟩ | ⟨β,add,size,c,T,fr,hB⟩
   ·exact .inl ⟨h6,by subst h7;exact List.eq_nil_of_length_eq_zero h5.1.symm⟩
   ·refine .inr ⟨β,add,size,c,T,fr,⟨hB.sig,hB.heap,hB.hsz,h5.1▸hB.fits,fun i y hy=>?_,hB.frs⟩⟩
    have hi:i<xs.length:=by rw [h5.1];exact (List.getElem?_eq_some_iff.1 hy).1
    obtain ⟨v,h6,h7⟩:=hB.vals i _ (List.getElem?_eq_getElem hi)
    rw [h.avo]
    exact ⟨v,h6,h5.2 i _ y (List.getElem?_eq_getElem hi) hy _ _ _ _ h7⟩
 ·rcases h l with ⟨_,h5⟩ | ⟨_,h5⟩ | ⟨xs,_,h5,_,_⟩
  ·rw [h5] at h1;simp at h1
  ·rw [h5] at h1;simp at h1
  ·rcases h l' with ⟨_,h6⟩ | ⟨_,h6⟩ | ⟨xs',_,h6,_,_⟩
   ·rw [h6] at h2;simp at h2
   ·rw [h6] at h2;simp at h2
   ·exact hb.inj l l' _ _ β a s a' s' h5 h6 h3 h4
 ·have:=hb.dom l x hx
  rcases h l with ⟨h3,_⟩ | ⟨_,h3⟩ | ⟨_,_,_,h3,_⟩
  ·exact absurd h3 this
  ·rw [h3];simp
  ·rw [h3];simp
theorem LLe.grow {K:Nat->Prop} {w w':World} {σ σ':Sig} {L M M':Lb} (h:LLe M M') (hg:Grow K w σ L w' σ' M):Grow K w σ L w' σ' M':=
 ⟨hg.size,hg.sig,fun β hb hn=>⟨fun ha=>(hg.keep β hb hn).1 ((h.av σ' β).1 ha),(hg.keep β hb hn).2⟩,hg.out,hg.fam⟩
theorem WLe.keys {wl wl':Lb} (h:WLe wl wl'):wl.map (·.1)=wl'.map (·.1):=by
 induction h with
 | nil=>rfl
 | gone _ ih=>simp [ih]
 | cons _ _ ih=>simp [ih]
theorem AOp.weak {E:Env} {o:Oper} {ra:Al} {rl:Lb} {x y:PV} {wl wl':Lb} (h:AOp E o ra rl x wl) (hx:PLe x y) (hw:WLe wl wl'):AOp E o ra rl y wl':=by
 intro A w σ al L a r h1 h2 h3
 have h3':∀p∈wl,lget rl p.1≠none\/lget L p.1=none:=by
  intro p hp
  have:p.1∈wl'.map (·.1):=hw.keys▸List.mem_map_of_mem hp
  obtain ⟨q,hq,e⟩:=List.mem_map.1 this
  rw [<-e];exact h3 q hq
 refine oX (h A w σ al L a r h1 h2 h3') ?_ (fun _ _ _ h=>h)
 rintro a' w' ⟨σ',c,e1,e2,e3,e4⟩
 have hL:=LLe.upd hw (LLe.refl L)
 refine ⟨σ',c,e1,?_,hL.br e3,hL.grow e4⟩
 rw [hL.avo]
 exact hx _ _ _ _ e2
abbrev DL:=List (Nat×Option Nat)
def oY (rl wl:DLb) (dl:DL):Prop:=∀p∈wl,(p.1,none)∈dl\/∃cs cs',lget rl p.1=some (.cs cs)/\p.2 = .cs cs'/\cs'.length=cs.length/\∀i,(p.1,some i) ∉ dl->cs'[i]?=cs[i]?
def wlOk (wl:DLb):Prop:=∀p∈wl,p.2.ok
def OpS (E:Env) (o:Oper) (ra:DAl) (rl:DLb) {R:Type} (k:DV->DLb->DL->Option R) (r:R):Prop:=
 ∃x wl dl,AOp E o (dal ra) (dlb rl) x.pv (dlb wl)/\x.ok/\wlOk wl/\oY rl wl dl/\k x wl dl=some r
section
variable {E:Env} {o:Oper} {ra:DAl} {rl:DLb} {R:Type} {k:DV->DLb->DL->Option R} {r:R}
theorem OpS.val {x:DV} (h:AOp E o (dal ra) (dlb rl) x.pv []) (hx:x.ok) (hk:k x [] []=some r):OpS E o ra rl k r:=
 ⟨x,[],[],h,hx,fun _ h=>by simp at h,fun _ h=>by simp at h,hk⟩
theorem OpS.new {x:DV} {l:Nat} {c:DC} (h:AOp E o (dal ra) (dlb rl) x.pv [(l,c.pv)]) (hx:x.ok) (hc:c.ok) (hk:k x [(l,c)] [(l,none)]=some r):OpS E o ra rl k r:=
 ⟨x,[(l,c)],[(l,none)],h,hx,fun p hp=>by simp at hp;subst hp;exact hc,fun p hp=>by simp at hp;subst hp;exact .inl (by simp),hk⟩
end
abbrev GTab:=List (Nat×Sigma fun t:ET=>List t.T)
def gtPV (G:GTab):List (Nat×List PV):=G.map fun p=>(p.1,fl (el p.2.1) p.2.2)
mutual
def ofPV:PV->Option DV
 | .int k n=>some (.int k n)
 | .bool b=>some (.bool b)
 | .str s=>some (.str s)
 | .nilp=>some .nilp
 | .nils=>some .nils
 | .nilf=>some .nilf
 | .nili=>some .nili
 | .agg cs=>match xw cs with | some l=>some (.agg l) | none=>none
 | .tup cs=>match xw cs with | some l=>some (.tup l) | none=>none
 | _=>none
def xw:List PV->Option (List DV)
 | []=>some []
 | x::r=>match ofPV x with
  | some d=>match xw r with
   | some l=>some (d::l)
   | none=>none
  | none=>none
end
mutual
theorem EQ:∀(x:PV) {d:DV},ofPV x=some d->d.pv=x/\d.ok
 | .int _ _,d,h=>by simp [ofPV] at h;subst h;exact ⟨rfl,trivial⟩
 | .bool _,d,h=>by simp [ofPV] at h;subst h;exact ⟨rfl,trivial⟩
 | .str _,d,h=>by simp [ofPV] at h;subst h;exact ⟨rfl,trivial⟩
 | .nilp,d,h=>by simp [ofPV] at h;subst h;exact ⟨rfl,trivial⟩
 | .nils,d,h=>by simp [ofPV] at h;subst h;exact ⟨rfl,trivial⟩
 | .nilf,d,h=>by simp [ofPV] at h;subst h;exact ⟨rfl,trivial⟩
 | .nili,d,h=>by simp [ofPV] at h;subst h;exact ⟨rfl,trivial⟩
 | .agg cs,d,h=>by
  simp only [ofPV] at h;split at h
  ·rename_i l hl;simp at h;subst h;exact ⟨by simp [DV.pv,(nH cs hl).1],(nH cs hl).2⟩
  ·simp at h
 | .tup cs,d,h=>by
  simp only [ofPV] at h;split at h
  ·rename_i l hl;simp at h;subst h;exact ⟨by simp [DV.pv,(nH cs hl).1],(nH cs hl).2⟩
  ·simp at h
 | .dead,d,h=>by simp [ofPV] at h
 | .ptr _ _,d,h=>by simp [ofPV] at h
 | .rop _ _,d,h=>by simp [ofPV] at h
 | .ro _ _ _,d,h=>by simp [ofPV] at h
 | .rw _ _ _ _ _,d,h=>by simp [ofPV] at h
 | .fn _ _,d,h=>by simp [ofPV] at h
 | .iface _ _,d,h=>by simp [ofPV] at h
 | .yld _ _ _ _ _ _,d,h=>by simp [ofPV] at h
theorem nH:∀(x:List PV) {d:List DV},xw x=some d->DV.pvs d=x/\DV.oks d
 | [],d,h=>by simp [xw] at h;subst h;exact ⟨rfl,trivial⟩
 | x::r,d,h=>by
  simp only [xw] at h
  split at h
  ·rename_i a ha
   split at h
   ·rename_i l hl
    simp at h;subst h
    obtain ⟨h1,h2⟩:=EQ x ha
    obtain ⟨h3,h4⟩:=nH r hl
    exact ⟨by simp [DV.pvs,h1,h3],h2,h4⟩
   ·simp at h
  ·simp at h
end
def dev (G:GTab) (al:DAl):Operand->Option DV
 | .tmp t=>lget al t
 | .const v=>match cpv v with
  | some p=>ofPV p
  | none=>none
 | .global g=>match lget G g with
  | some s=>some (.gp s.1 s.2)
  | none=>none
 | .func f=>some (.fn f [])
theorem bT {G:GTab} {al:DAl} (hal:alOk al) {x:Operand} {d:DV} (h:dev G al x=some d):xev (gtPV G) (dal al) x=some d.pv/\d.ok:=by
 cases x with
 | tmp t=>
  simp only [dev] at h
  exact ⟨by simp only [xev];rw [bI,h];rfl,hal t d h⟩
 | const v=>
  simp only [dev] at h
  split at h
  ·rename_i p hp
   obtain ⟨h1,h2⟩:=EQ p h
   exact ⟨by simp only [xev];rw [hp,h1],h2⟩
  ·simp at h
 | global g=>
  simp only [dev] at h
  split at h
  ·rename_i s hs
   simp at h;subst h
   refine ⟨?_,trivial⟩
   simp only [xev,gtPV]
   rw [tO (fun s:Sigma fun t:ET=>List t.T=>fl (el s.1) s.2),hs]
   rfl
  ·simp at h
 | func f=>simp only [dev,Option.some.injEq] at h;subst h;exact ⟨rfl,trivial⟩
def devs (G:GTab) (al:DAl):List Operand->Option (List DV)
 | []=>some []
 | x::r=>match dev G al x with
  | some d=>match devs G al r with
   | some l=>some (d::l)
   | none=>none
  | none=>none
theorem t9 {G:GTab} {al:DAl} (hal:alOk al):∀{xs:List Operand} {ds:List DV},devs G al xs=some ds->xevs (gtPV G) (dal al) xs=some (DV.pvs ds)/\DV.oks ds
 | [],ds,h=>by simp [devs] at h;subst h;exact ⟨rfl,trivial⟩
 | x::r,ds,h=>by
  simp only [devs] at h
  split at h
  ·rename_i d hd
   split at h
   ·rename_i l hl
    simp at h;subst h
    obtain ⟨h1,h2⟩:=bT hal hd
    obtain ⟨h3,h4⟩:=t9 hal hl
    exact ⟨by simp [xevs,h1,h3,DV.pvs],h2,h4⟩
   ·simp at h
  ·simp at h
def ofInt:IntKind->Int->DV
 | .u8,n=>.by (UInt8.ofInt n)
 | k,n=>.int k n
theorem Kb {n:Int} (h:0<=n/\n<256):((UInt8.ofInt n).toNat:Int)=n:=by
 simp [UInt8.ofInt]
 omega
theorem nI {k:IntKind} {n:Int} (h:k = .u8->0<=n/\n<256):(ofInt k n).pv = .int k n:=by
 cases k <;> first | rfl | (show PV.int .u8 _=_;rw [Kb (h rfl)])
theorem nJ (k:IntKind) (n:Int):(ofInt k n).ok:=by cases k <;> trivial
theorem fJ (n:Int):0<=u8.wrap n/\u8.wrap n<256:=by
 rw [Iv]
 have:=(UInt8.ofInt n).toNat_lt
 omega
def EP:PV->Option DV
 | .int k n=>some (ofInt k n)
 | .bool b=>some (.bool b)
 | _=>none
def me:DV->Option (IntKind×Int)
 | .int k n=>some (k,n)
 | .by x=>some (.u8,(x.toNat:Int))
 | _=>none
theorem jX {d:DV} {k:IntKind} {n:Int} (h:me d=some (k,n)):d.pv = .int k n:=by
 unfold me at h
 split at h <;> simp at h
 ·obtain ⟨rfl,rfl⟩:=h;rfl
 ·obtain ⟨rfl,rfl⟩:=h;rfl
end Go.SH
namespace Go.SH
def ER:DV->Bool
 | .int .u8 _=>false
 | _=>true
def J2 (P:Program) (op:BinOp) (T:TypeId) (x y:Operand) (a b:DV) {R:Type} (k:DV->Option R):Option R:=
 match xbin P op T x y a.pv b.pv with
 | some p=>match EP p with
  | some d=>k d
  | none=>none
 | none=>none
def dDiv (op:BinOp) (a b:DV) {R:Type} (k:DV->Option R):Option R:=
 match me a,me b with
 | some (ka,n),some (kb,m)=>match op with
  | .quo=>if ka=kb then req (m≠0) (k (ofInt ka (ka.wrap (n.tdiv m)))) else none
  | .rem=>if ka=kb/\ER a=true then req (m≠0) (k (ofInt ka (n.tmod m))) else none
  | .shl=>req (0<=m) (k (ofInt ka (ka.wrap (n*2^(min m.toNat ka.bits)))))
  | .shr=>if ER a=true then req (0<=m) (k (ofInt ka (n.fdiv (2^(min m.toNat ka.bits))))) else none
  | _=>none
 | _,_=>none
def AK:BinOp->Bool
 | .quo=>true
 | .rem=>true
 | .shl=>true
 | .shr=>true
 | _=>false
def dBin (P:Program) (op:BinOp) (T:TypeId) (x y:Operand) (a b:DV) {R:Type} (k:DV->Option R):Option R:=
 match AK op with
 | true=>dDiv op a b k
 | false=>match op,a,b with
  | .add,.str s,.str t=>req (s.length+t.length<=9223372036854775807) (k (.str (s++t)))
  | _,_,_=>J2 P op T x y a b k
theorem Df {P:Program} {op:BinOp} {T:TypeId} {x y:Operand} {a b:PV} {k:IntKind} {n:Int} (hop:AK op=false) (h:xbin P op T x y a b=some (.int k n)) (hk:k = .u8):0<=n/\n<256:=by
 subst hk
 unfold xbin at h
 split at h
 ·split at h
  ·rename_i k1 n1 k2 n2 _ _
   cases op <;> simp [AK] at hop <;> simp [ibin] at h <;> (try (obtain ⟨rfl,rfl⟩:=h)) <;> first | exact fJ _ | (simp only [az];exact fJ _)
  ·cases op <;> simp [AK] at hop <;> simp at h
 ·cases op <;> simp [sbin] at h
 ·cases op <;> simp at h
theorem Di {x:UInt8} {m:Int}:0<=((x.toNat:Int)).tmod m/\((x.toNat:Int)).tmod m<256:=by
 have h1:=x.toNat_lt
 cases m with
 | ofNat m=>
  have h2:=Nat.mod_le x.toNat m
  show 0<=((x.toNat % m:Nat):Int)/\((x.toNat % m:Nat):Int)<256
  omega
 | negSucc m=>
  have h2:=Nat.mod_le x.toNat (m+1)
  show 0<=((x.toNat % (m+1):Nat):Int)/\((x.toNat % (m+1):Nat):Int)<256
  omega
theorem DT {x:UInt8} {m:Nat}:0<=((x.toNat:Int)).fdiv (2^m)/\((x.toNat:Int)).fdiv (2^m)<256:=by
 have h1:=x.toNat_lt
 have hp:(0:Int)<2^m:=Int.pow_pos (by decide)
 rw [Int.fdiv_eq_ediv_of_nonneg _ (by omega)]
 refine ⟨Int.ediv_nonneg (by omega) (by omega),?_⟩
 have:=Int.ediv_le_self (2^m:Int) (a:=(x.toNat:Int)) (by omega)
 omega
section
variable {E:Env} {d:Option Tmp} {ty:TypeId} {pos:String} {after:Array Edge} {g:Option (Nat×Bool)} {ra:DAl} {rl:DLb} {R:Type} {r:R} {G:GTab}
theorem Ck {p:PV} {v:DV} (hr:∀k n,p = .int k n->k = .u8->0<=n/\n<256) (h:EP p=some v):v.pv=p/\v.ok:=by
 unfold EP at h
 split at h
 ·rename_i k n;simp at h;subst h;exact ⟨nI (hr k n rfl),nJ _ _⟩
 ·simp at h;subst h;exact ⟨rfl,trivial⟩
 ·simp at h
theorem y0 {a:DV} {n:Int} (h:me a=some (.u8,n)) (hn:ER a=true):∃x:UInt8,n=(x.toNat:Int):=by
 unfold me at h
 split at h
 ·simp at h;obtain ⟨rfl,rfl⟩:=h;simp [ER] at hn
 ·simp at h;subst h;exact ⟨_,rfl⟩
 ·simp at h
theorem Jf (hG:E.G=gtPV G) (hal:alOk ra) {op:BinOp} {T yt:TypeId} {x y:Operand} {a b:DV} {k:DV->DLb->DL->Option R} (hx:dev G ra x=some a) (hy:dev G ra y=some b)
  (h:dBin E.P op T x y a b (fun v=>k v [] [])=some r):OpS E ⟨d,.binOp op T x y yt,ty,pos,after,g⟩ ra rl k r:=by
 have hx':xev E.G (dal ra) x=some a.pv:=hG▸(bT hal hx).1
 have hy':xev E.G (dal ra) y=some b.pv:=hG▸(bT hal hy).1
 unfold dBin at h
 split at h
 ·rename_i hop
  unfold dDiv at h
  split at h
  ·rename_i ka n kb m ha hb
   rw [jX ha] at hx'
   rw [jX hb] at hy'
   split at h
   ·split at h
    ·rename_i e;subst e
     obtain ⟨hc,h⟩:=dK h
     refine .val (AOp.weak (lR hx' hy' (Gs hc)) ?_ .nil) (nJ _ _) h
     rw [nI (fun e=>by subst e;exact fJ _)];exact .refl _
    ·simp at h
   ·split at h
    ·rename_i e;obtain ⟨e,e2⟩:=e;subst e
     obtain ⟨hc,h⟩:=dK h
     refine .val (AOp.weak (lR hx' hy' (Gr hc)) ?_ .nil) (nJ _ _) h
     rw [nI (fun e=>by subst e;obtain ⟨z,rfl⟩:=y0 ha e2;exact Di)];exact .refl _
    ·simp at h
   ·obtain ⟨hc,h⟩:=dK h
    refine .val (AOp.weak (lR hx' hy' (Gq hc)) ?_ .nil) (nJ _ _) h
    rw [nI (fun e=>by subst e;exact fJ _)];exact .refl _
   ·split at h
    ·rename_i e2
     obtain ⟨hc,h⟩:=dK h
     refine .val (AOp.weak (lR hx' hy' (Gp hc)) ?_ .nil) (nJ _ _) h
     rw [nI (fun e=>by subst e;obtain ⟨z,rfl⟩:=y0 ha e2;exact DT)];exact .refl _
    ·simp at h
   ·simp at h
  ·simp at h
 ·rename_i hop
  split at h
  ·obtain ⟨hc,h⟩:=dK h
   exact .val (x:=.str _) (Ek hx' hy' hc) trivial h
  ·unfold J2 at h
   split at h
   ·rename_i p hp
    split at h
    ·rename_i v hv
     obtain ⟨h1,h2⟩:=Ck (fun k n e hk=>Df hop (e▸hp) hk) hv
     exact .val (h1▸lR hx' hy' hp) h2 h
    ·simp at h
   ·simp at h
def dUn (op:UnOp) (a:DV) {R:Type} (k:DV->Option R):Option R:=
 match xun op a.pv with
 | some p=>match EP p with
  | some d=>k d
  | none=>none
 | none=>none
theorem KN (hG:E.G=gtPV G) (hal:alOk ra) {op:UnOp} {T:TypeId} {x:Operand} {a:DV} {k:DV->DLb->DL->Option R} (hx:dev G ra x=some a)
  (h:dUn op a (fun v=>k v [] [])=some r):OpS E ⟨d,.unOp op T x,ty,pos,after,g⟩ ra rl k r:=by
 have hx':xev E.G (dal ra) x=some a.pv:=hG▸(bT hal hx).1
 unfold dUn at h
 split at h
 ·rename_i p hp
  split at h
  ·rename_i v hv
   obtain ⟨h1,h2⟩:=Ck (fun k n e hk=>by
    subst e;subst hk
    unfold xun at hp
    split at hp <;> simp at hp
    ·obtain ⟨rfl,rfl⟩:=hp;exact fJ _
    ·obtain ⟨rfl,rfl⟩:=hp;simp only [az];exact fJ _) hv
   exact .val (h1▸C8 hx' hp) h2 h
  ·simp at h
 ·simp at h
def vN (P:Program) (T:TypeId) (cs:List DV) (o:Nat):Option DV:=
 match P.info? T,iy P T with
 | some i,some true=>if o+i.size<=cs.length/\0<i.size then some (.agg ((cs.drop o).take i.size)) else none
 | some _,some false=>cs[o]?
 | _,_=>none
theorem n4 {P:Program} {T:TypeId} {cs:List DV} {o:Nat} {v:DV} (hc:DV.oks cs) (h:vN P T cs o=some v):oZ P T (DV.pvs cs) o=some v.pv/\(∀L,kL P T L (.rop (DV.pvs cs) o)=some v.pv)/\v.ok:=by
 unfold vN at h
 split at h
 ·rename_i i h1 h2
  split at h
  ·rename_i hh
   simp at h;subst h
   refine ⟨?_,fun L=>?_,?_⟩
   ·simp only [oZ,h1,h2,aV];rw [if_pos hh.1];simp [DV.pv,pE,pG]
   ·simp only [kL,gu,h1,h2,aV];rw [if_pos hh];simp [DV.pv,pE,pG]
   ·exact fQ.2 fun x hx=>fQ.1 hc x (List.mem_of_mem_drop (List.mem_of_mem_take hx))
  ·simp at h
 ·rename_i i h1 h2
  refine ⟨?_,fun L=>?_,ql hc h⟩
  ·simp only [oZ,h1,h2,sT,h,Option.map_some]
  ·simp only [kL,gu,h1,h2,sT,h,Option.map_some]
 ·simp at h
def HR (P:Program) (T:TypeId) (rl:DLb) (p:DV) {R:Type} (k:DV->Option R):Option R:=
 match p with
 | .ptr l off=>match lget rl l with
  | some (.cs cs)=>match vN P T cs off with
   | some v=>k v
   | none=>none
  | some (.ls t ls)=>(ls[off / t.sz]?).bind fun x=>match vN P T (t.cells x) (off % t.sz) with
   | some v=>k v
   | none=>none
  | _=>none
 | .lp l sz i kk=>match lget rl l with
  | some (.ls t ls)=>if sz=t.sz then (ls[i]?).bind fun x=>match vN P T (t.cells x) kk with
   | some v=>k v
   | none=>none else none
  | _=>none
 | .ep t _ _ x kk=>match vN P T (t.cells x) kk with
  | some v=>k v
  | none=>none
 | _=>none
theorem pp {P:Program} {T:TypeId} {L:Lb} {p:PV} {cells:List PV} {off:Nat} (h:gu L p=some (cells,off)):kL P T L p=kL P T [] (.rop cells off):=by
 unfold kL;rw [h];rfl
theorem uw {P:Program} {T:TypeId} {t:ET} {ls:List t.T} {i kk:Nat} {x:t.T} {v:DV} (hx:ls[i]?=some x) (hv:vN P T (t.cells x) kk=some v):kL P T [] (.rop (fl (el t) ls) (i*t.sz+kk))=some v.pv:=by
 obtain ⟨_,h,_⟩:=n4 (i8 t x) hv
 have h:=h []
 rw [n8] at h
 have hz:=jz t
 unfold kL at h ⊢
 simp only [gu] at h ⊢
 cases hi:P.info? T with
 | none=>rw [hi] at h;simp at h
 | some ie=>
  rw [hi] at h
  cases hr:iy P T with
  | none=>rw [hr] at h;simp at h
  | some b=>
   rw [hr] at h
   cases b with
   | true=>
    simp only at h ⊢
    split at h
    ·rename_i hh
     have:=JZ (e:=el t) hx
     have hl:=(el t).hsz x
     rw [<-hz,if_pos ⟨by omega,hh.2⟩,I5 hx (by omega)];exact h
    ·simp at h
   | false=>
    simp only at h ⊢
    have hl:=(List.getElem?_eq_some_iff.1 h).1
    rw [(el t).hsz] at hl
    rw [<-hz,AS hx hl];exact h
theorem HQ (hG:E.G=gtPV G) (hal:alOk ra) (hrl:lbOk rl) {T:TypeId} {p:Operand} {q:DV} {k:DV->DLb->DL->Option R} (hp:dev G ra p=some q)
  (h:HR E.P T rl q (fun v=>k v [] [])=some r):OpS E ⟨d,.load T p,ty,pos,after,g⟩ ra rl k r:=by
 obtain ⟨hp',hq⟩:=bT hal hp
 rw [<-hG] at hp'
 unfold HR at h
 split at h
 ·rename_i l off
  split at h
  ·rename_i cs hl
   split at h
   ·rename_i v hv
    obtain ⟨_,h2,h3⟩:=n4 (hrl _ _ hl) hv
    refine .val (oc hp' ?_) h3 h
    rw [pp (cells:=DV.pvs cs) (off:=off) (by simp [gu,DV.pv,aB,hl,DC.pv])]
    exact h2 []
   ·simp at h
  ·rename_i t ls hl
   obtain ⟨x,hx,h⟩:=bind_some h
   split at h
   ·rename_i v hv
    obtain ⟨_,_,h3⟩:=n4 (i8 t x) hv
    refine .val (oc hp' ?_) h3 h
    rw [pp (cells:=fl (el t) ls) (off:=off) (by simp [gu,DV.pv,aB,hl,DC.pv])]
    have e:off=off / t.sz*t.sz+off % t.sz:=by rw [Nat.mul_comm];exact (Nat.div_add_mod off t.sz).symm
    rw [e];exact uw hx hv
   ·simp at h
  ·simp at h
 ·rename_i l sz i kk
  split at h
  ·rename_i t ls hl
   split at h
   ·rename_i e;subst e
    obtain ⟨x,hx,h⟩:=bind_some h
    split at h
    ·rename_i v hv
     obtain ⟨_,_,h3⟩:=n4 (i8 t x) hv
     refine .val (oc hp' ?_) h3 h
     rw [pp (cells:=fl (el t) ls) (off:=i*t.sz+kk) (by simp [gu,DV.pv,aB,hl,DC.pv])]
     exact uw hx hv
    ·simp at h
   ·simp at h
  ·simp at h
 ·rename_i t ls i x kk
  split at h
  ·rename_i v hv
   obtain ⟨_,_,h3⟩:=n4 (i8 t x) hv
   refine .val (oc hp' ?_) h3 h
   rw [pp (cells:=fl (el t) ls) (off:=i*t.sz+kk) (by simp [gu,DV.pv])]
   exact uw hq hv
  ·simp at h
 ·simp at h
end
end Go.SH
namespace Go.SH
def iK:DV->List DV
 | .agg cs=>cs
 | x=>[x]
theorem gM (v:DV):DV.pvs (iK v)=dw v.pv:=by cases v <;> rfl
theorem vh {v:DV} (h:v.ok):DV.oks (iK v):=by
 cases v <;> first | exact h | exact ⟨h,trivial⟩
def ji (cs:List DV) (off:Nat) (xs:List DV):List DV:=cs.take off++xs++cs.drop (off+xs.length)
theorem rZ (cs:List DV) (off:Nat) (xs:List DV):DV.pvs (ji cs off xs)=dZ (DV.pvs cs) off (DV.pvs xs):=by
 simp [ji,dZ,eE,pE,pG,aV]
theorem yd {cs xs:List DV} (h:DV.oks cs) (h':DV.oks xs) (off:Nat):DV.oks (ji cs off xs):=by
 refine fQ.2 fun x hx=>?_
 rcases List.mem_append.1 hx with hx | hx
 ·rcases List.mem_append.1 hx with hx | hx
  ·exact fQ.1 h x (List.mem_of_mem_take hx)
  ·exact fQ.1 h' x hx
 ·exact fQ.1 h x (List.mem_of_mem_drop hx)
theorem CG {cs xs:List DV} {off:Nat} (h:off+xs.length<=cs.length):(ji cs off xs).length=cs.length:=by
 simp [ji];omega
theorem CH {cs xs:List DV} {off:Nat} (h:off+xs.length<=cs.length) {i:Nat} (hi:i<off\/off+xs.length<=i):(ji cs off xs)[i]?=cs[i]?:=by
 unfold ji
 rcases hi with hi | hi
 ·rw [List.append_assoc,List.getElem?_append_left (by simp;omega),List.getElem?_take_of_lt hi]
 ·rw [List.getElem?_append_right (by simp;omega),List.getElem?_drop]
  congr 1
  simp
  omega
theorem Dm {A B C xs:List PV} {k:Nat} (h:k+xs.length<=B.length):dZ (A++(B++C)) (A.length+k) xs=A++(dZ B k xs++C):=by
 unfold dZ
 rw [List.take_append,List.take_of_length_le (by omega),Nat.add_sub_cancel_left,List.take_append_of_le_length (by omega),List.drop_append,List.drop_eq_nil_of_le (by omega),List.nil_append,
  show A.length+k+xs.length-A.length=k+xs.length from by omega,List.drop_append_of_le_length h]
 simp
theorem CB {α:Type} {e:El α} {l:List α} {i:Nat} {x:α} (h:l[i]?=some x):(fl e (l.take i)).length=i*e.sz:=by
 have hi:=(List.getElem?_eq_some_iff.1 h).1
 rw [bM,List.length_take,Nat.min_eq_left (by omega)]
theorem FO {α:Type} {e:El α} {l:List α} {i k:Nat} {x y:α} {xs:List PV} (h:l[i]?=some x) (hk:k+xs.length<=e.sz) (hy:CLe (dZ (e.pv x) k xs) (e.pv y)):CLe (dZ (fl e l) (i*e.sz+k) xs) (fl e (l.set i y)):=by
 have hi:=(List.getElem?_eq_some_iff.1 h).1
 have hs:(l.set i y)[i]?=some y:=by simp [hi]
 rw [xZ h,xZ hs,show i*e.sz=(fl e (l.take i)).length from (CB h).symm,Dm (by rw [e.hsz];exact hk)]
 have e1:(l.set i y).take i=l.take i:=by simp [List.take_set_of_le (Nat.le_refl i)]
 have e2:(l.set i y).drop (i+1)=l.drop (i+1):=by simp [List.drop_set_of_lt]
 rw [e1,e2]
 exact (CLe.refl _).append (hy.append (.refl _))
def sa (l off n:Nat):DL:=(List.range n).map fun j=>(l,some (off+j))
theorem FT {l off n i:Nat}:(l,some i)∈sa l off n<->off<=i/\i<off+n:=by
 simp only [sa,List.mem_map,List.mem_range,Prod.mk.injEq,Option.some.injEq,true_and]
 constructor
 ·rintro ⟨j,hj,rfl⟩;omega
 ·rintro ⟨h1,h2⟩;exact ⟨i-off,by omega,by omega⟩
def DY (P:Program) (T:TypeId) (rl:DLb) (p v:DV) {R:Type} (k:DV->DLb->DL->Option R):Option R:=
 match P.info? T with
 | some i=>if (iK v).length=i.size/\(DV.pvs (iK v)).all PV.one=true/\0<i.size then
   match p with
   | .ptr l off=>match lget rl l with
    | some (.cs cs)=>if off+i.size<=cs.length then k .dead [(l,.cs (ji cs off (iK v)))] (sa l off i.size) else none
    | some (.ls t ls)=>if off % t.sz+i.size<=t.sz then (ls[off / t.sz]?).bind fun x=>match t.one (ji (t.cells x) (off % t.sz) (iK v)) with
      | some y=>k .dead [(l,.ls t (ls.set (off / t.sz) y))] [(l,none)]
      | none=>none else none
    | _=>none
   | .lp l sz j kk=>match lget rl l with
    | some (.ls t ls)=>if sz=t.sz/\kk+i.size<=t.sz then (ls[j]?).bind fun x=>match t.one (ji (t.cells x) kk (iK v)) with
      | some y=>k .dead [(l,.ls t (ls.set j y))] [(l,none)]
      | none=>none else none
    | _=>none
   | _=>none else none
 | none=>none
section
variable {E:Env} {d:Option Tmp} {ty:TypeId} {pos:String} {after:Array Edge} {g:Option (Nat×Bool)} {ra:DAl} {rl:DLb} {R:Type} {r:R} {G:GTab} {k:DV->DLb->DL->Option R}
theorem BO (hal:alOk ra) {T:TypeId} {p v:Operand} {b:DV} {ie:TypeInfo} {l j kk:Nat} {t:ET} {ls:List t.T} {x y:t.T} (hp:xev E.G (dal ra) p=some (.ptr l (j*t.sz+kk))) (hv:xev E.G (dal ra) v=some b.pv)
  (hl:lget rl l=some (.ls t ls)) (hi:E.P.info? T=some ie) (h1:(iK b).length=ie.size) (h2:(DV.pvs (iK b)).all PV.one=true) (h3:0<ie.size) (h4:kk+ie.size<=t.sz) (hx:ls[j]?=some x)
  (hy:t.one (ji (t.cells x) kk (iK b))=some y):AOp E ⟨none,.store T p v,ty,pos,after,g⟩ (dal ra) (dlb rl) .dead (dlb [(l,.ls t (ls.set j y))]):=by
 have e1:(dw b.pv).length=ie.size:=by rw [<-gM,aV];exact h1
 have:=JZ (e:=el t) hx
 rw [jz] at this
 refine AOp.weak (vq hp hv (cells:=fl (el t) ls) (by simp [aB,hl,DC.pv]) hi e1 (by rw [<-gM];exact h2) (by omega) h3) (.refl _) (.one ?_)
 have h5:=G7 hy
 rw [rZ,n8,gM] at h5
 rw [<-jz]
 exact FO hx (by rw [jz,e1];exact h4) h5
theorem FV (hG:E.G=gtPV G) (hal:alOk ra) (hrl:lbOk rl) {T:TypeId} {p v:Operand} {a b:DV} (hp:dev G ra p=some a) (hv:dev G ra v=some b)
  (h:DY E.P T rl a b k=some r):OpS E ⟨none,.store T p v,ty,pos,after,g⟩ ra rl k r:=by
 obtain ⟨hp',hpok⟩:=bT hal hp
 obtain ⟨hv',hb⟩:=bT hal hv
 rw [<-hG] at hp' hv'
 clear hpok
 unfold DY at h
 split at h
 ·rename_i ie hi
  split at h
  ·rename_i hc;obtain ⟨h1,h2,h3⟩:=hc
   split at h
   ·rename_i l off
    split at h
    ·rename_i cs hl
     split at h
     ·rename_i hfit
      have e1:(dw b.pv).length=ie.size:=by rw [<-gM,aV];exact h1
      have:=vq (ty:=ty) (pos:=pos) (after:=after) (g:=g) hp' hv' (cells:=DV.pvs cs) (rl:=dlb rl) (by simp [aB,hl,DC.pv]) hi e1 (by rw [<-gM];exact h2) (by rw [aV];exact hfit) h3
      refine ⟨.dead,_,_,(by rw [<-gM,<-rZ] at this;exact this),trivial,?_,?_,h⟩
      ·intro p hp;simp at hp;subst hp;exact yd (hrl _ _ hl) (vh hb) off
      ·intro p hp;simp at hp;subst hp
       refine .inr ⟨cs,_,hl,rfl,CG (by omega),fun i hi=>CH (by omega) ?_⟩
       rw [FT] at hi;omega
     ·simp at h
    ·rename_i t ls hl
     split at h
     ·rename_i h4
      obtain ⟨x,hx,h⟩:=bind_some h
      split at h
      ·rename_i y hy
       have e:off=off / t.sz*t.sz+off % t.sz:=by rw [Nat.mul_comm];exact (Nat.div_add_mod off t.sz).symm
       have hp2:xev E.G (dal ra) p=some (.ptr l (off / t.sz*t.sz+off % t.sz)):=by rw [hp'];simp only [DV.pv];rw [<-e]
       exact .new (x:=.dead) (BO hal hp2 hv' hl hi h1 h2 h3 h4 hx hy) trivial trivial h
      ·simp at h
     ·simp at h
    ·simp at h
   ·rename_i l sz j kk
    split at h
    ·rename_i t ls hl
     split at h
     ·rename_i h4;obtain ⟨e,h4⟩:=h4;subst e
      obtain ⟨x,hx,h⟩:=bind_some h
      split at h
      ·rename_i y hy
       exact .new (x:=.dead) (BO hal hp' hv' hl hi h1 h2 h3 h4 hx hy) trivial trivial h
      ·simp at h
     ·simp at h
    ·simp at h
   ·simp at h
  ·simp at h
 ·simp at h
def dBox (nl:Nat) (v:DV) (k:DV->DLb->DL->Option R):Option R:=
 if (DV.pvs (iK v)).all PV.one=true then k (.ptr nl 0) [(nl,.cs (iK v))] [(nl,none)] else none
theorem Je (hG:E.G=gtPV G) (hal:alOk ra) {nl:Nat} (hn:lget rl nl=none) {T:TypeId} {x:Operand} {v:DV} (hx:dev G ra x=some v) (h:dBox nl v k=some r):OpS E ⟨d,.box T x,ty,pos,after,g⟩ ra rl k r:=by
 obtain ⟨hx',hv⟩:=bT hal hx
 rw [<-hG] at hx'
 unfold dBox at h
 split at h
 ·rename_i h1
  have:=Fs (T:=T) (d:=d) (ty:=ty) (pos:=pos) (after:=after) (g:=g) (rl:=dlb rl) nl hx' (by rw [<-gM];exact h1) (by simp [aB,hn])
  rw [<-gM] at this
  exact .new (x:=.ptr nl 0) (c:=.cs (iK v)) this trivial (vh hv) h
 ·simp at h
def dz (P:Program) (T:TypeId):Option (List DV):=match iD P T with
 | some z=>xw z
 | none=>none
theorem E7 {P:Program} {T:TypeId} {z:List DV} (h:dz P T=some z):iD P T=some (DV.pvs z)/\DV.oks z:=by
 unfold dz at h
 split at h
 ·rename_i c hc;obtain ⟨h1,h2⟩:=nH c h;exact ⟨by rw [hc,h1],h2⟩
 ·simp at h
def D7 (P:Program) (T:TypeId) (nl:Nat) (k:DV->DLb->DL->Option R):Option R:=match dz P T with
 | some z=>k (.ptr nl 0) [(nl,.cs z)] [(nl,none)]
 | none=>none
theorem F2 {nl:Nat} (hn:lget rl nl=none) {T:TypeId} (h:D7 E.P T nl k=some r):OpS E ⟨d,.alloc T,ty,pos,after,g⟩ ra rl k r:=by
 unfold D7 at h
 split at h
 ·rename_i z hz
  obtain ⟨h1,h2⟩:=E7 hz
  exact .new (x:=.ptr nl 0) (c:=.cs z) (Ad nl h1 (by simp [aB,hn])) trivial h2 h
 ·simp at h
def yg (place:Nat->Option (Nat×Nat)) (cs:List DV):List (Nat×DV)->Option (List DV)
 | []=>some cs
 | (i,v)::rest=>match place i with
  | none=>none
  | some (off,size)=>if (iK v).length=size/\off+size<=cs.length/\(DV.pvs (iK v)).all PV.one=true then yg place (ji cs off (iK v)) rest else none
def ppv (ps:List (Nat×DV)):List (Nat×PV):=ps.map fun p=>(p.1,p.2.pv)
theorem t8 {place:Nat->Option (Nat×Nat)}:∀{ps:List (Nat×DV)} {cs out:List DV},yg place cs ps=some out->DV.oks cs->(∀p∈ps,p.2.ok)->o5 place (DV.pvs cs) (ppv ps)=some (DV.pvs out)/\DV.oks out
 | [],cs,out,h,h1,h2=>by simp [yg] at h;subst h;exact ⟨rfl,h1⟩
 | (i,v)::rest,cs,out,h,h1,h2=>by
  simp only [yg] at h
  split at h
  ·simp at h
  ·rename_i off size hp
   split at h
   ·rename_i hc
    obtain ⟨e1,e2⟩:=t8 h (yd h1 (vh (h2 (i,v) (by simp))) off) (fun p hp=>h2 p (List.mem_cons_of_mem _ hp))
    refine ⟨?_,e2⟩
    simp only [ppv,List.map_cons,o5,hp]
    rw [if_pos (by rw [<-gM,aV,aV];exact hc),<-gM,<-rZ]
    exact e1
   ·simp at h
def vg (G:GTab) (al:DAl):List (Nat×Operand)->Option (List (Nat×DV))
 | []=>some []
 | (i,o)::r=>match dev G al o with
  | some x=>match vg G al r with
   | some xs=>some ((i,x)::xs)
   | none=>none
  | none=>none
theorem ve (hal:alOk ra):∀{os:List (Nat×Operand)} {ps:List (Nat×DV)},vg G ra os=some ps->mL (gtPV G) (dal ra) os=some (ppv ps)/\∀p∈ps,p.2.ok
 | [],ps,h=>by simp [vg] at h;subst h;exact ⟨rfl,by simp⟩
 | (i,o)::os,ps,h=>by
  simp only [vg] at h
  split at h
  ·rename_i x hx
   split at h
   ·rename_i xs hxs
    simp at h;subst h
    obtain ⟨h1,h2⟩:=bT hal hx
    obtain ⟨h3,h4⟩:=ve hal hxs
    refine ⟨by simp [mL,h1,h3,ppv],fun p hp=>?_⟩
    rcases List.mem_cons.1 hp with rfl | hp
    ·exact h2
    ·exact h4 p hp
   ·simp at h
  ·simp at h
def HL (P:Program) (T:TypeId) (ps:List (Nat×DV)):Option (List DV):=
 match dz P T with
 | some z=>match P.underlying T with
  | some (.struct fields)=>match qe P fields.toList with
   | some places=>yg (fun (i:Nat)=>places[i]?) z ps
   | none=>none
  | some (.array _ e)=>match P.info? e with
   | some ie=>yg (fun i=>some (i*ie.size,ie.size)) z ps
   | none=>none
  | _=>none
 | none=>none
def D5 (P:Program) (G:GTab) (al:DAl) (T:TypeId) (parts:List (Nat×Operand)) (k:DV->DLb->DL->Option R):Option R:=
 match vg G al parts with
 | some ps=>match HL P T ps with
  | some cs=>k (.agg cs) [] []
  | none=>none
 | none=>none
theorem F1 (hG:E.G=gtPV G) (hal:alOk ra) {T:TypeId} {parts:Array (Nat×Operand)} (h:D5 E.P G ra T parts.toList k=some r):OpS E ⟨d,.build T parts,ty,pos,after,g⟩ ra rl k r:=by
 unfold D5 at h
 split at h
 ·rename_i ps hps
  obtain ⟨h1,h2⟩:=ve hal hps
  rw [<-hG] at h1
  split at h
  ·rename_i cs hcs
   have key:wK E.P T (ppv ps)=some (DV.pvs cs)/\DV.oks cs:=by
    unfold HL at hcs
    split at hcs
    ·rename_i z hz
     obtain ⟨z1,z2⟩:=E7 hz
     unfold wK
     split at hcs
     ·rename_i fields hu
      split at hcs
      ·rename_i places hpl
       obtain ⟨f1,f2⟩:=t8 hcs z2 h2
       refine ⟨?_,f2⟩
       simp only [z1,hu,hpl];exact f1
      ·simp at hcs
     ·rename_i e hu
      split at hcs
      ·rename_i ie hie
       obtain ⟨f1,f2⟩:=t8 hcs z2 h2
       refine ⟨?_,f2⟩
       simp only [z1,hu,hie];exact f1
      ·simp at hcs
     ·simp at hcs
    ·simp at hcs
   exact .val (x:=.agg cs) (Ac h1 key.1) key.2 h
  ·simp at h
 ·simp at h
def E6 (z:List DV) (n:Nat):List DV:=(List.range n).map fun i=>z.getD (i % z.length) .dead
theorem HC (z:List DV) (n:Nat):DV.pvs (E6 z n)=zrow (DV.pvs z) n:=by
 simp only [E6,zrow,pF,List.map_map,List.length_map]
 refine List.map_congr_left fun i _=>?_
 simp only [Function.comp,List.getD_eq_getElem?_getD,List.getElem?_map]
 cases z[i % z.length]? <;> rfl
theorem HD {z:List DV} (h:DV.oks z) (n:Nat):DV.oks (E6 z n):=by
 refine fQ.2 fun x hx=>?_
 obtain ⟨i,_,rfl⟩:=List.mem_map.1 hx
 rw [List.getD_eq_getElem?_getD]
 cases hz:z[i % z.length]? with
 | none=>trivial
 | some y=>exact ql h hz
def pW (P:Program) (G:GTab) (al:DAl) (nl:Nat) (T:TypeId) (len:Nat) (parts:List (Nat×Operand)) (k:DV->DLb->DL->Option R):Option R:=
 match vg G al parts with
 | some ps=>match P.underlying T with
  | some (.slice e)=>match P.info? e with
   | some ie=>match dz P e with
    | some z=>if len*ie.size<=2^24/\0<ie.size/\0<z.length then
      match yg (fun i=>some (i*ie.size,ie.size)) (E6 z (len*ie.size)) ps with
      | some cs=>k (.rw nl ie.size 0 len (some len) false) [(nl,.cs cs)] [(nl,none)]
      | none=>none else none
    | none=>none
   | none=>none
  | _=>none
 | none=>none
theorem yk (hG:E.G=gtPV G) (hal:alOk ra) {nl:Nat} (hn:lget rl nl=none) {T:TypeId} {len:Nat} {parts:Array (Nat×Operand)} (h:pW E.P G ra nl T len parts.toList k=some r) :
  OpS E ⟨d,.buildSlice T len parts,ty,pos,after,g⟩ ra rl k r:=by
 unfold pW at h
 split at h
 ·rename_i ps hps
  obtain ⟨h1,h2⟩:=ve hal hps
  rw [<-hG] at h1
  split at h
  ·rename_i e hu
   split at h
   ·rename_i ie hie
    split at h
    ·rename_i z hz
     obtain ⟨z1,z2⟩:=E7 hz
     split at h
     ·rename_i hc
      split at h
      ·rename_i cs hcs
       obtain ⟨f1,f2⟩:=t8 hcs (HD z2 _) h2
       rw [HC] at f1
       have hx:kM E.P T len (ppv ps)=some (DV.pvs cs,ie.size):=by
        unfold kM
        simp only [hu,hie,z1,aV]
        rw [if_pos hc,f1];rfl
       exact .new (x:=.rw nl ie.size 0 len (some len) false) (c:=.cs cs) (by have:=qc (d:=d) (ty:=ty) (pos:=pos) (after:=after) (g:=g) (rl:=dlb rl) nl h1 hx (by simp [aB,hn]);simpa [DV.pv,DC.pv] using this) trivial f2 h
      ·simp at h
     ·simp at h
    ·simp at h
   ·simp at h
  ·simp at h
 ·simp at h
end
end Go.SH
namespace Go.SH
section
variable {E:Env} {d:Option Tmp} {ty:TypeId} {pos:String} {after:Array Edge} {g:Option (Nat×Bool)} {ra:DAl} {rl:DLb} {R:Type} {r:R} {G:GTab} {k:DV->DLb->DL->Option R}
def HN (o:Nat):DV->Option DV
 | .ptr l off=>some (.ptr l (off+o))
 | .lp l sz i kk=>some (.lp l sz i (kk+o))
 | .ep t ls i x kk=>some (.ep t ls i x (kk+o))
 | _=>none
theorem HM {o:Nat} {p q:DV} (h:HN o p=some q) (hp:p.ok):cV o p.pv=some q.pv/\q.ok:=by
 unfold HN at h
 split at h <;> simp at h <;> subst h
 ·exact ⟨rfl,trivial⟩
 ·exact ⟨by simp [cV,DV.pv,Nat.add_assoc],trivial⟩
 ·exact ⟨by simp [cV,DV.pv,Nat.add_assoc],hp⟩
def se (P:Program) (S:TypeId) (f:Nat) (p:DV) (k:DV->DLb->DL->Option R):Option R:=match xoff P S f with
 | some (o,_,_)=>match HN o p with
  | some q=>k q [] []
  | none=>none
 | none=>none
theorem yR (hG:E.G=gtPV G) (hal:alOk ra) {S:TypeId} {x:Operand} {f:Nat} {p:DV} (hx:dev G ra x=some p) (h:se E.P S f p k=some r):OpS E ⟨d,.fieldAddr S x f,ty,pos,after,g⟩ ra rl k r:=by
 obtain ⟨hx',hp⟩:=bT hal hx
 rw [<-hG] at hx'
 unfold se at h
 split at h
 ·rename_i o T sz ho
  split at h
  ·rename_i q hq
   obtain ⟨h1,h2⟩:=HM hq hp
   exact .val (rf hx' ho h1) h2 h
  ·simp at h
 ·simp at h
def AY (P:Program) (T:TypeId) (cs:List DV) (o:Nat):Option DV:=
 match P.info? T,iy P T with
 | some i,some true=>if o+i.size<=cs.length then some (.agg ((cs.drop o).take i.size)) else none
 | some _,some false=>cs[o]?
 | _,_=>none
theorem zM {P:Program} {T:TypeId} {cs:List DV} {o:Nat} {v:DV} (hc:DV.oks cs) (h:AY P T cs o=some v):oZ P T (DV.pvs cs) o=some v.pv/\v.ok:=by
 unfold AY at h
 split at h
 ·rename_i i h1 h2
  split at h
  ·rename_i hh
   simp at h;subst h
   refine ⟨?_,?_⟩
   ·simp only [oZ,h1,h2,aV];rw [if_pos hh];simp [DV.pv,pE,pG]
   ·exact fQ.2 fun x hx=>fQ.1 hc x (List.mem_of_mem_drop (List.mem_of_mem_take hx))
  ·simp at h
 ·rename_i i h1 h2
  exact ⟨by simp only [oZ,h1,h2,sT,h,Option.map_some],ql hc h⟩
 ·simp at h
def D2 (P:Program) (S:TypeId) (f:Nat) (p:DV) (k:DV->DLb->DL->Option R):Option R:=match p with
 | .agg cs=>match xoff P S f with
  | some (o,T,_)=>match AY P T cs o with
   | some q=>k q [] []
   | none=>none
  | none=>none
 | _=>none
theorem FY (hG:E.G=gtPV G) (hal:alOk ra) {S:TypeId} {x:Operand} {f:Nat} {p:DV} (hx:dev G ra x=some p) (h:D2 E.P S f p k=some r):OpS E ⟨d,.field S x f,ty,pos,after,g⟩ ra rl k r:=by
 obtain ⟨hx',hp⟩:=bT hal hx
 rw [<-hG] at hx'
 unfold D2 at h
 split at h
 ·rename_i cs
  split at h
  ·rename_i o T sz ho
   split at h
   ·rename_i q hq
    obtain ⟨h1,h2⟩:=zM hp hq
    exact .val (Ab hx' ho h1) h2 h
   ·simp at h
  ·simp at h
 ·simp at h
def yi (p:DV) (i:Nat) (k:DV->DLb->DL->Option R):Option R:=match p with
 | .tup vs=>match vs[i]? with
  | some q=>k q [] []
  | none=>none
 | _=>none
theorem CL (hG:E.G=gtPV G) (hal:alOk ra) {x:Operand} {i:Nat} {p:DV} (hx:dev G ra x=some p) (h:yi p i k=some r):OpS E ⟨d,.extract x i,ty,pos,after,g⟩ ra rl k r:=by
 obtain ⟨hx',hp⟩:=bT hal hx
 rw [<-hG] at hx'
 unfold yi at h
 split at h
 ·rename_i vs
  split at h
  ·rename_i q hq
   exact .val (vW hx' (by rw [sT,hq];rfl)) (ql hp hq) h
  ·simp at h
 ·simp at h
def vk (G:GTab) (al:DAl) (f:FuncId) (caps:List Operand) (k:DV->DLb->DL->Option R):Option R:=match devs G al caps with
 | some xs=>k (.fn f xs) [] []
 | none=>none
theorem A9 (hG:E.G=gtPV G) (hal:alOk ra) {f:FuncId} {caps:Array Operand} (h:vk G ra f caps.toList k=some r):OpS E ⟨d,.makeFunc (.func f) #[] caps,ty,pos,after,g⟩ ra rl k r:=by
 unfold vk at h
 split at h
 ·rename_i xs hxs
  obtain ⟨h1,h2⟩:=t9 hal hxs
  rw [<-hG] at h1
  exact .val (x:=.fn f xs) (uq h1) h2 h
 ·simp at h
def Hc (P:Program) (T:TypeId):Bool:=match P.underlying T with | some (.interface _)=>false | some _=>true | none=>false
def sc (P:Program) (T:TypeId) (p:DV) (k:DV->DLb->DL->Option R):Option R:=if Hc P T=true then k (.iface T p) [] [] else none
theorem yP (hG:E.G=gtPV G) (hal:alOk ra) {T:TypeId} {x:Operand} {p:DV} (hx:dev G ra x=some p) (h:sc E.P T p k=some r):OpS E ⟨d,.makeInterface T x,ty,pos,after,g⟩ ra rl k r:=by
 obtain ⟨hx',hp⟩:=bT hal hx
 rw [<-hG] at hx'
 unfold sc at h
 split at h
 ·rename_i hT
  exact .val (x:=.iface T p) (mJ hx' hT) hp h
 ·simp at h
def vj (p:DV) (k:DV->DLb->DL->Option R):Option R:=if xnil p.pv=true then k p [] [] else none
theorem A8 (hG:E.G=gtPV G) (hal:alOk ra) {x:Operand} {p:DV} (hx:dev G ra x=some p) (h:vj p k=some r):OpS E ⟨d,.nilCheck x,ty,pos,after,g⟩ ra rl k r:=by
 obtain ⟨hx',hp⟩:=bT hal hx
 rw [<-hG] at hx'
 unfold vj at h
 split at h
 ·rename_i hT
  exact .val (uo hx' hT) hp h
 ·simp at h
def JX (P:Program) (t:TypeId):Option Nat:=match P.underlying t with
 | some (.array n _)=>some n
 | some (.pointer u)=>match P.underlying u with
  | some (.array n _)=>some n
  | _=>none
 | _=>none
def dLen (P:Program) (t:TypeId) (p:Option DV) (k:DV->DLb->DL->Option R):Option R:=match JX P t with
 | some n=>k (.int .i64 (n:Nat)) [] []
 | none=>match p with
  | some p=>match xlen p.pv with
   | some n=>if EY P t p.pv=true then k (.int .i64 (n:Nat)) [] [] else none
   | none=>none
  | none=>none
theorem Jd (hG:E.G=gtPV G) (hal:alOk ra) {t:TypeId} {x:Operand} {p:Option DV} (hx:∀q,p=some q->dev G ra x=some q) (h:dLen E.P t p k=some r):OpS E ⟨d,.call ⟨.builtin .len,#[x],#[t]⟩,ty,pos,after,g⟩ ra rl k r:=by
 unfold dLen at h
 split at h
 ·rename_i n hn
  unfold JX at hn
  split at hn
  ·rename_i n' e hu;simp at hn;subst hn;exact .val (x:=.int .i64 _) (ur hu) trivial h
  ·rename_i u hu
   split at hn
   ·rename_i n' e hu2;simp at hn;subst hn;exact .val (x:=.int .i64 _) (ph hu hu2) trivial h
   ·simp at hn
  ·simp at hn
 ·split at h
  ·rename_i q
   obtain ⟨hx',hp⟩:=bT hal (hx q rfl)
   rw [<-hG] at hx'
   split at h
   ·rename_i n hn
    split at h
    ·rename_i ht;exact .val (x:=.int .i64 _) (Fr hx' hn ht) trivial h
    ·simp at h
   ·simp at h
  ·simp at h
def wC (mx:Bool) (G:GTab) (al:DAl) (xs:List Operand) (k:DV->DLb->DL->Option R):Option R:=match devs G al xs with
 | some (d::ds)=>match me d with
  | some (kd,m)=>if kd = .u8 then none else match o4 mx kd m (DV.pvs ds) with
   | some q=>k (.int kd q) [] []
   | none=>none
  | none=>none
 | _=>none
theorem yh (hG:E.G=gtPV G) (hal:alOk ra) {mx:Bool} {xs:Array Operand} {ts:Array TypeId} (h:wC mx G ra xs.toList k=some r) :
  OpS E ⟨d,.call ⟨.builtin (if mx then .max else .min),xs,ts⟩,ty,pos,after,g⟩ ra rl k r:=by
 unfold wC at h
 split at h
 ·rename_i d ds hds
  obtain ⟨h1,h2⟩:=t9 hal hds
  rw [<-hG] at h1
  split at h
  ·rename_i kd m hd
   split at h
   ·simp at h
   ·split at h
    ·rename_i q hq
     simp only [DV.pvs,jX hd] at h1
     cases mx
     ·exact .val (x:=.int kd q) (Fo h1 hq) trivial h
     ·exact .val (x:=.int kd q) (Fq h1 hq) trivial h
    ·simp at h
  ·simp at h
 ·simp at h
def HP (G:GTab) (al:DAl) (c x y:Operand) (k:DV->DLb->DL->Option R):Option R:=match dev G al c with
 | some (.bool b)=>match b with
  | true=>match dev G al x with
   | some v=>k v [] []
   | none=>none
  | false=>match dev G al y with
   | some v=>k v [] []
   | none=>none
 | _=>none
theorem HO (hG:E.G=gtPV G) (hal:alOk ra) {c x y:Operand} (h:HP G ra c x y k=some r):OpS E ⟨d,.pick c x y,ty,pos,after,g⟩ ra rl k r:=by
 unfold HP at h
 split at h
 ·rename_i b hb
  have hc:=(bT hal hb).1
  rw [<-hG] at hc
  split at h
  ·split at h
   ·rename_i v hv
    obtain ⟨hv',h2⟩:=bT hal hv
    rw [<-hG] at hv'
    refine .val (yA hc ?_) h2 h
    simp only [BE,DV.pv,hv']
    split <;> simp_all
   ·simp at h
  ·split at h
   ·rename_i v hv
    obtain ⟨hv',h2⟩:=bT hal hv
    rw [<-hG] at hv'
    refine .val (yA hc ?_) h2 h
    simp only [BE,DV.pv,hv']
    split <;> simp_all
   ·simp at h
 ·simp at h
def selI (i:Int):Nat->Nat->(Nat->Option R)->Option R
 | 0,_,_=>none
 | m+1,j,f=>cond (i==(j:Nat)) (f j) (selI i m (j+1) f)
theorem zh {i:Int}:∀{m j:Nat} {f:Nat->Option R},selI i m j f=some r->∃n,i=(n:Nat)/\j<=n/\n<j+m/\f n=some r
 | 0,_,_,h=>by simp [selI] at h
 | m+1,j,f,h=>by
  simp only [selI] at h
  cases hc:(i==(j:Nat)) with
  | true=>rw [hc] at h;exact ⟨j,by simpa using hc,Nat.le_refl _,by omega,h⟩
  | false=>
   rw [hc] at h
   obtain ⟨n,h1,h2,h3,h4⟩:=zh h
   exact ⟨n,h1,by omega,by omega,h4⟩
def idxI (sel:Bool) (i:Int) (n:Nat) (f:Nat->Option R):Option R:=match sel with
 | true=>selI i n 0 f
 | false=>if 0<=i/\i<n then f i.toNat else none
theorem nW {sel:Bool} {i:Int} {n:Nat} {f:Nat->Option R} (h:idxI sel i n f=some r):∃j:Nat,i=j/\j<n/\f j=some r:=by
 cases sel with
 | true=>obtain ⟨j,h1,_,h3,h4⟩:=zh h;exact ⟨j,h1,by omega,h4⟩
 | false=>
  simp only [idxI] at h
  split at h
  ·exact ⟨i.toNat,by omega,by omega,h⟩
  ·simp at h
def sd (P:Program) (sel:Bool) (T:TypeId) (rl:DLb) (p:DV) (i:Int) (k:DV->DLb->DL->Option R):Option R:=match P.underlying T with
 | some (.slice e)=>match P.info? e with
  | some ie=>match p with
   | .sl t ls=>if ie.size=t.sz then (getI ls i).bind fun x=>k (.ep t ls i.toNat x 0) [] [] else none
   | .rw l sz off n co w=>match lget rl l with
    | some (.ls t ls)=>if ie.size=sz then req (0<=i/\i<n) (k (.lp l sz (i.toNat+off) 0) [] []) else none
    | some (.cs cs)=>if ie.size=sz then idxI sel i n fun j=>k (.ptr l (off*sz+j*sz)) [] [] else none
    | _=>none
   | _=>none
  | none=>none
 | some (.array n e)=>match P.info? e with
  | some ie=>match p with
   | .gp t ls=>if ls.length=n/\ie.size=t.sz then (getI ls i).bind fun x=>k (.ep t ls i.toNat x 0) [] [] else none
   | .ptr l off=>match lget rl l with
    | some (.ls t ls)=>if ie.size=t.sz/\off=0 then req (0<=i/\i<n) (k (.lp l t.sz i.toNat 0) [] []) else none
    | _=>idxI sel i n fun j=>k (.ptr l (off+j*ie.size)) [] []
   | .lp l sz i0 kk=>idxI sel i n fun j=>k (.lp l sz i0 (kk+j*ie.size)) [] []
   | .ep t ls i0 x kk=>idxI sel i n fun j=>k (.ep t ls i0 x (kk+j*ie.size)) [] []
   | _=>none
  | none=>none
 | _=>none
theorem yQ (hG:E.G=gtPV G) (hal:alOk ra) {sel:Bool} {T:TypeId} {x ix:Operand} {p q:DV} {ki:IntKind} {i:Int} (hx:dev G ra x=some p) (hq:dev G ra ix=some q) (hi:me q=some (ki,i))
  (h:sd E.P sel T rl p i k=some r):OpS E ⟨d,.indexAddr T x ix,ty,pos,after,g⟩ ra rl k r:=by
 obtain ⟨hx',hp⟩:=bT hal hx
 have hi':=(bT hal hq).1
 rw [jX hi] at hi'
 rw [<-hG] at hx' hi'
 unfold sd at h
 split at h
 ·rename_i e hu
  split at h
  ·rename_i ie hie
   split at h
   ·rename_i t ls
    split at h
    ·rename_i hs
     obtain ⟨y,hy,h⟩:=bind_some h
     obtain ⟨h0,h1,h2⟩:=qu hy
     refine .val (x:=.ep t ls i.toNat y 0) (i9 (n:=ls.length) hx' hi' hu hie rfl h0 (by omega) ?_) h2 h
     simp [ke,DV.pv,hs]
    ·simp at h
   ·rename_i l sz off n co w
    split at h
    ·rename_i t ls hl
     split at h
     ·rename_i hs
      obtain ⟨⟨h0,h1⟩,h⟩:=dK h
      refine .val (x:=.lp l sz (i.toNat+off) 0) (i9 (n:=n) hx' hi' hu hie rfl h0 h1 ?_) trivial h
      simp [ke,DV.pv,hs,Nat.add_mul];omega
     ·simp at h
    ·rename_i cs hl
     split at h
     ·rename_i hs
      obtain ⟨j,rfl,hj,h⟩:=nW h
      refine .val (x:=.ptr l (off*sz+j*sz)) (i9 (n:=n) hx' hi' hu hie rfl (by omega) (by omega) ?_) trivial h
      simp [ke,DV.pv,hs]
     ·simp at h
    ·simp at h
   ·simp at h
  ·simp at h
 ·rename_i n e hu
  split at h
  ·rename_i ie hie
   split at h
   ·rename_i t ls
    split at h
    ·rename_i hs;obtain ⟨hn,hs⟩:=hs
     obtain ⟨y,hy,h⟩:=bind_some h
     obtain ⟨h0,h1,h2⟩:=qu hy
     refine .val (x:=.ep t ls i.toNat y 0) (gf hx' hi' hu hie h0 (by omega) ?_) h2 h
     simp [cV,DV.pv,hs]
    ·simp at h
   ·rename_i l off
    split at h
    ·rename_i t ls hl
     split at h
     ·rename_i hs;obtain ⟨hs,rfl⟩:=hs
      obtain ⟨⟨h0,h1⟩,h⟩:=dK h
      refine .val (x:=.lp l t.sz i.toNat 0) (gf hx' hi' hu hie h0 h1 ?_) trivial h
      simp [cV,DV.pv,hs]
     ·simp at h
    ·obtain ⟨j,rfl,hj,h⟩:=nW h
     refine .val (x:=.ptr l (off+j*ie.size)) (gf hx' hi' hu hie (by omega) (by omega) ?_) trivial h
     simp [cV,DV.pv]
   ·rename_i l sz i0 kk
    obtain ⟨j,rfl,hj,h⟩:=nW h
    refine .val (x:=.lp l sz i0 (kk+j*ie.size)) (gf hx' hi' hu hie (by omega) (by omega) ?_) trivial h
    simp [cV,DV.pv,Nat.add_assoc]
   ·rename_i t ls i0 y kk
    obtain ⟨j,rfl,hj,h⟩:=nW h
    refine .val (x:=.ep t ls i0 y (kk+j*ie.size)) (gf hx' hi' hu hie (by omega) (by omega) ?_) hp h
    simp [cV,DV.pv,Nat.add_assoc]
   ·simp at h
  ·simp at h
 ·simp at h
def D0 (P:Program) (sel:Bool) (T:TypeId) (p:DV) (i:Int) (k:DV->DLb->DL->Option R):Option R:=match P.underlying T with
 | some .string=>match p with
  | .str s=>(getI s i).bind fun c=>k (.by c) [] []
  | _=>none
 | some (.array n e)=>match P.info? e with
  | some ie=>match p with
   | .agg cs=>idxI sel i n fun j=>match AY P e cs (j*ie.size) with
    | some v=>k v [] []
    | none=>none
   | _=>none
  | none=>none
 | _=>none
theorem FX (hG:E.G=gtPV G) (hal:alOk ra) {sel:Bool} {T:TypeId} {x ix:Operand} {p q:DV} {ki:IntKind} {i:Int} (hx:dev G ra x=some p) (hq:dev G ra ix=some q) (hi:me q=some (ki,i))
  (h:D0 E.P sel T p i k=some r):OpS E ⟨d,.index T x ix,ty,pos,after,g⟩ ra rl k r:=by
 obtain ⟨hx',hp⟩:=bT hal hx
 have hi':=(bT hal hq).1
 rw [jX hi] at hi'
 rw [<-hG] at hx' hi'
 unfold D0 at h
 split at h
 ·rename_i hu
  split at h
  ·rename_i s
   obtain ⟨c,hc,h⟩:=bind_some h
   exact .val (x:=.by c) (Em hx' hi' hu hc) trivial h
  ·simp at h
 ·rename_i n e hu
  split at h
  ·rename_i ie hie
   split at h
   ·rename_i cs
    obtain ⟨j,rfl,hj,h⟩:=nW h
    split at h
    ·rename_i v hv
     obtain ⟨h1,h2⟩:=zM hp hv
     exact .val (uu hx' hi' hu hie (by omega) (by omega) (by simpa using h1)) h2 h
    ·simp at h
   ·simp at h
  ·simp at h
 ·simp at h
end
end Go.SH
namespace Go.SH
def etOf (P:Program):Nat->TypeId->Option ET
 | 0,_=>none
 | f+1,T=>match P.underlying T with
  | some (.int .u8)=>some .tu
  | some (.int k)=>some (.ti k)
  | some .bool=>some .tb
  | some .string=>some .ts
  | some (.slice e)=>match etOf P f e with
   | some t=>some (.tl t)
   | none=>none
  | some (.struct fs)=>row (fs.toList.map fun fl=>etOf P f fl.type)
  | some (.array n e)=>row (List.replicate n (etOf P f e))
  | _=>none
where
 row:List (Option ET)->Option ET
  | []=>none
  | [t]=>t
  | some t::r=>match row r with
   | some u=>some (.tp t u)
   | none=>none
  | none::_=>none
section
variable {E:Env} {d:Option Tmp} {ty:TypeId} {pos:String} {after:Array Edge} {g:Option (Nat×Bool)} {ra:DAl} {rl:DLb} {R:Type} {r:R} {G:GTab} {k:DV->DLb->DL->Option R}
def srcL (rl:DLb) (t:ET) (q:DV) (kk:List t.T->Option R):Option R:=match q with
 | .nils=>kk []
 | .sl t' l=>if h:t'=t then kk (h▸l) else none
 | .rw lab sz off n co w=>if sz=t.sz then match lget rl lab with
  | some (.ls t' ls)=>if h:t'=t then match w with
    | true=>if off=0 then req (n=ls.length) (kk (h▸ls)) else none
    | false=>req (off+n<=ls.length) (kk (((h▸ls:List t.T).drop off).take n)) else none
  | some (.cs cs)=>if off*sz+n*sz<=cs.length/\(DV.pvs ((cs.drop (off*sz)).take (n*sz))).all PV.one=true then match t.all (n+1) ((cs.drop (off*sz)).take (n*sz)) with
    | some l=>kk l
    | none=>none else none
  | _=>none else none
 | _=>none
structure SrcS (rl:DLb) (t:ET) (q:DV) (l:List t.T) (cells:List PV):Prop where
 slc:SlC (dlb rl) t.sz q.pv cells l.length
 le:CLe cells (fl (el t) l)
 one:cells.all PV.one=true
 rw:∀lab sz off n co w,q = .rw lab sz off n co w->∃cc,lget (dlb rl) lab=some (some cc)/\off*t.sz+n*t.sz<=cc.length/\n=l.length/\(cc.drop (off*t.sz)).take (n*t.sz)=cells/\sz=t.sz
 u8:(t = .tu\/t = .ti .i32)->cells=fl (el t) l
theorem Jr {t:ET} {f:Nat} {cs:List DV} {l:List t.T} (h:t.all f cs=some l):cs.length=l.length*t.sz:=by
 have:=(Eg h).1
 rw [aV,bM,jz] at this
 exact this
theorem H8:∀{f:Nat} {cs:List DV} {l:List UInt8},ET.all .tu f cs=some l->DV.pvs cs=fl eU8 l
 | _,[],l,h=>by simp [ET.all] at h;subst h;rfl
 | 0,_::_,l,h=>by simp [ET.all] at h
 | f+1,c::cs,l,h=>by
  simp only [ET.all] at h
  split at h
  ·rename_i x r hx
   obtain ⟨d,e,h1⟩:=cA hx
   simp at e;obtain ⟨rfl,rfl⟩:=e
   split at h
   ·rename_i l' hl
    simp at h;subst h
    rw [eZ,<-H8 hl]
    show c.pv::DV.pvs cs=[PV.int .u8 _]++_
    rw [Bl h1];rfl
   ·simp at h
  ·simp at h
theorem H9:∀{f:Nat} {cs:List DV} {l:List Int},ET.all (.ti .i32) f cs=some l->DV.pvs cs=fl (el (.ti .i32)) l
 | _,[],l,h=>by simp [ET.all] at h;subst h;rfl
 | 0,_::_,l,h=>by simp [ET.all] at h
 | f+1,c::cs,l,h=>by
  simp only [ET.all] at h
  split at h
  ·rename_i x r hx
   obtain ⟨d,e,h1⟩:=cA hx
   simp at e;obtain ⟨rfl,rfl⟩:=e
   split at h
   ·rename_i l' hl
    simp at h;subst h
    rw [eZ,<-H9 hl]
    obtain rfl:=yr h1
    rfl
   ·simp at h
  ·simp at h
theorem E4:∀l:List Int,fl (el (.ti .i32)) l=l.map (PV.int .i32)
 | []=>rfl
 | x::l=>by rw [eZ,E4 l];rfl
theorem Hu {α:Type} (e:El α) (l:List α) (a n:Nat):((fl e l).drop (a*e.sz)).take (n*e.sz)=fl e ((l.drop a).take n):=by rw [AT,wA]
theorem jC {t:ET} {q:DV} {kk:List t.T->Option R} (h:srcL rl t q kk=some r):∃l cells,SrcS rl t q l cells/\kk l=some r:=by
 have hz:=jz t
 unfold srcL at h
 split at h
 ·exact ⟨[],[],⟨⟨by simp,rfl⟩,.refl _,rfl,fun _ _ _ _ _ _ h=>(by cases h),fun _=>rfl⟩,h⟩
 ·rename_i t' l
  split at h
  ·rename_i e;subst e
   exact ⟨l,fl (el t') l,⟨⟨by rw [bM,hz],rfl,rfl⟩,.refl _,DR l,fun _ _ _ _ _ _ h=>(by cases h),fun _=>rfl⟩,h⟩
  ·simp at h
 ·rename_i lab sz off n co w
  split at h
  ·rename_i hs;subst hs
   split at h
   ·rename_i t' ls hl
    have hg:lget (dlb rl) lab=some (some (fl (el t') ls)):=by rw [aB,hl];rfl
    split at h
    ·rename_i e;subst e
     split at h
     ·split at h
      ·rename_i e;subst e
       obtain ⟨e,h'⟩:=dK h
       subst e
       have e1:((fl (el t') ls).drop (0*t'.sz)).take (ls.length*t'.sz)=fl (el t') ls:=by rw [Nat.zero_mul,List.drop_zero,<-hz,<-bM,List.take_length]
       refine ⟨ls,fl (el t') ls,⟨⟨by rw [bM,hz],rfl,rfl,_,hg,e1⟩,.refl _,DR ls,?_,fun _=>rfl⟩,h'⟩
       intro _ _ _ _ _ _ e;cases e
       exact ⟨_,hg,by rw [bM,hz];omega,rfl,e1,rfl⟩
      ·simp at h
     ·obtain ⟨hb,h⟩:=dK h
      have e1:((fl (el t') ls).drop (off*t'.sz)).take (n*t'.sz)=fl (el t') ((ls.drop off).take n):=by rw [<-hz];exact Hu _ _ _ _
      have e2:((ls.drop off).take n).length=n:=by simp;omega
      refine ⟨(ls.drop off).take n,_,⟨⟨by rw [bM,hz,e2],e2.symm,rfl,_,hg,by rw [e2];exact e1⟩,.refl _,DR _,?_,fun _=>rfl⟩,h⟩
      intro _ _ _ _ _ _ e;cases e
      exact ⟨_,hg,by rw [bM,hz,<-Nat.add_mul];exact Nat.mul_le_mul_right _ hb,e2.symm,e1,rfl⟩
    ·simp at h
   ·rename_i cs hl
    have hg:lget (dlb rl) lab=some (some (DV.pvs cs)):=by rw [aB,hl];rfl
    split at h
    ·rename_i hc;obtain ⟨h1,h2⟩:=hc
     split at h
     ·rename_i l hal
      have e0:=Jr hal
      have e1:n=l.length:=by
       have e3:((cs.drop (off*t.sz)).take (n*t.sz)).length=n*t.sz:=by simp;omega
       rw [e3] at e0
       exact Nat.eq_of_mul_eq_mul_right t.sz_pos e0
      have e2:DV.pvs ((cs.drop (off*t.sz)).take (n*t.sz))=((DV.pvs cs).drop (off*t.sz)).take (n*t.sz):=by rw [pE,pG]
      refine ⟨l,_,⟨⟨by rw [aV];exact e0,e1,rfl,_,hg,by rw [<-e1,e2]⟩,Eg hal,h2,?_,?_⟩,h⟩
      ·intro _ _ _ _ _ _ e;cases e
       exact ⟨_,hg,by rw [aV];exact h1,e1,e2.symm,rfl⟩
      ·rintro (e | e)
       ·subst e;exact H8 hal
       ·subst e;exact H9 hal
     ·simp at h
    ·simp at h
   ·simp at h
  ·simp at h
 ·simp at h
def aS:Nat:=140737488355328
def fk (fq:Nat) (t:ET):ET:=match fq with
 | 0=>t
 | q=>match t with
  | .tl t=>.tf q t
  | t=>t
theorem Me (fq:Nat) (t:ET):(fk fq t).sz=t.sz:=by
 unfold fk
 split
 ·rfl
 ·cases t <;> rfl
def AV (P:Program) (fq:Nat) (T:TypeId):Option (TypeInfo×List DV×ET):=match P.underlying T with
 | some (.slice e)=>match P.info? e with
  | some ie=>match dz P e with
   | some z=>match etOf P 20 e with
    | some t=>if z.length=ie.size/\0<ie.size/\ie.size=t.sz/\0<ie.bytes then some (ie,z,fk fq t) else none
    | none=>none
   | none=>none
  | none=>none
 | _=>none
theorem zI {P:Program} {fq:Nat} {T:TypeId} {ie:TypeInfo} {z:List DV} {t:ET} (h:AV P fq T=some (ie,z,t)):∃e,P.underlying T=some (.slice e)/\P.info? e=some ie/\iD P e=some (DV.pvs z)/\DV.oks z/\z.length=ie.size/\0<ie.size/\ie.size=t.sz/\0<ie.bytes:=by
 unfold AV at h
 split at h
 ·rename_i e hu
  split at h
  ·rename_i i hi
   split at h
   ·rename_i z' hz
    split at h
    ·split at h
     ·rename_i hc
      simp at h;obtain ⟨rfl,rfl,rfl⟩:=h
      obtain ⟨z1,z2⟩:=E7 hz
      exact ⟨e,hu,hi,z1,z2,hc.1,hc.2.1,by rw [Me];exact hc.2.2.1,hc.2.2.2⟩
     ·simp at h
    ·simp at h
   ·simp at h
  ·simp at h
 ·simp at h
def Hm (P:Program) (T:TypeId):Bool:=match P.underlying T with | some (.slice _)=>true | _=>false
def Hl (P:Program) (T:TypeId):Bool:=match P.underlying T with | some .string=>true | _=>false
def srcA (P:Program) (rl:DLb) (t:ET) (tx:TypeId) (q:DV) (kk:List t.T->Option R):Option R:=match q with
 | .str s=>if h:t = .tu then (if Hl P tx=true then kk (h▸s) else none) else none
 | q=>if Hm P tx=true then srcL rl t q kk else none
theorem IC {t:ET} {tx:TypeId} {q:DV} {kk:List t.T->Option R} (h:srcA E.P rl t tx q kk=some r):∃l cells,sk E.P (dlb rl) t.sz tx q.pv cells l.length/\CLe cells (fl (el t) l)/\kk l=some r:=by
 have hsl:∀{q:DV},Hm E.P tx=true->srcL rl t q kk=some r->∃l cells,sk E.P (dlb rl) t.sz tx q.pv cells l.length/\CLe cells (fl (el t) l)/\kk l=some r:=by
  intro q h1 h2
  obtain ⟨l,cells,hs,h⟩:=jC h2
  refine ⟨l,cells,.inl ⟨?_,hs.slc,hs.one⟩,hs.le,h⟩
  unfold Hm at h1
  split at h1
  ·rename_i e he;exact ⟨e,he⟩
  ·simp at h1
 unfold srcA at h
 split at h
 ·rename_i s
  split at h
  ·rename_i e;subst e
   split at h
   ·rename_i h1
    refine ⟨s,_,.inr ⟨?_,rfl,s,rfl,rfl,(Kk s).symm⟩,.refl _,h⟩
    unfold Hl at h1
    split at h1
    ·assumption
    ·simp at h1
   ·simp at h
  ·simp at h
 ·split at h
  ·rename_i h1;exact hsl h1 h
  ·simp at h
def xW:DV->DLb
 | .rw lab _ _ _ _ _=>[(lab,.gone)]
 | _=>[]
def JW:DV->Bool
 | .nils=>true
 | .rw _ _ _ _ _ _=>true
 | _=>false
def Bc (P:Program) (fq:Nat) (rl:DLb) (nl:Nat) (T tx:TypeId) (p q:DV) (k:DV->DLb->DL->Option R):Option R:=match AV P fq T with
 | some (ie,z,t)=>if JW p=true then srcL rl t p fun b=>srcA P rl t tx q fun m=>req ((b++m).length*ie.bytes<=aS) (k (.rw nl t.sz 0 (b++m).length none true) (xW p++[(nl,.ls t (b++m))]) ((xW p).map (fun x=>(x.1,none))++[(nl,none)])) else none
 | none=>none
theorem D6 {fq:Nat} (hG:E.G=gtPV G) (hal:alOk ra) {nl:Nat} (hn:lget rl nl=none) {T tx:TypeId} {x y:Operand} {p q:DV} (hx:dev G ra x=some p) (hy:dev G ra y=some q)
  (h:Bc E.P fq rl nl T tx p q k=some r):OpS E ⟨d,.call ⟨.builtin .append,#[x,y],#[T,tx]⟩,ty,pos,after,g⟩ ra rl k r:=by
 have hx':=(bT hal hx).1
 have hy':=(bT hal hy).1
 rw [<-hG] at hx' hy'
 have hn':lget (dlb rl) nl=none:=by simp [aB,hn]
 unfold Bc at h
 split at h
 ·rename_i ie z t he
  obtain ⟨e,hu,hie,hz,hz2,hzl,hpos,hsz,hby⟩:=zI he
  split at h
  ·rename_i hd
   obtain ⟨b,cb,hb,h⟩:=jC h
   obtain ⟨m,cm,hm,hml,h⟩:=IC h
   obtain ⟨hc,h⟩:=dK h
   have hlen:(b++m).length=b.length+m.length:=by simp
   unfold aS at hc
   have hc2:(b++m).length<=9223372036854775807:=Nat.le_trans (Nat.le_mul_of_pos_right _ hby) (by omega)
   rw [hlen] at hc hc2
   rw [<-hsz] at hm
   have hdl:∀wl:DLb,wl=xW p++[(nl,.ls t (b++m))]->wlOk wl/\oY rl wl ((xW p).map (fun x=>(x.1,none))++[(nl,none)]):=by
    rintro _ rfl
    refine ⟨fun p hp=>?_,fun p hp=>.inl ?_⟩
    ·rcases List.mem_append.1 hp with hp | hp
     ·unfold xW at hp;split at hp
      ·simp at hp;subst hp;trivial
      ·simp at hp
     ·simp at hp;subst hp;trivial
    ·rcases List.mem_append.1 hp with hp | hp
     ·exact List.mem_append_left _ (List.mem_map.2 ⟨p,hp,rfl⟩)
     ·simp at hp;subst hp;exact List.mem_append_right _ (by simp)
   unfold JW at hd
   split at hd
   ·have h0:b=[]:=List.eq_nil_of_length_eq_zero hb.slc.2
    subst h0
    have hA:=Dd (d:=d) (ty:=ty) (pos:=pos) (after:=after) (g:=g) nl hx' hy' hu hie hz (by rw [aV];exact hzl) (.inl rfl) hm hpos (by simpa using hc) (by simpa using hc2) hn'
    have h1:=hdl _ rfl
    refine ⟨.rw nl t.sz 0 ([]++m).length none true,[(nl,.ls t ([]++m))],_,AOp.weak hA ?_ (.one hml),trivial,h1.1,h1.2,h⟩
    rw [hsz];simp [DV.pv];exact .refl _
   ·rename_i lab sz off n co w _ _ _
    obtain ⟨cc,c1,c2,c3,c4,c5⟩:=hb.rw _ _ _ _ _ _ rfl
    subst c5;subst c3
    rw [<-hsz] at c2 c4
    have hx2:xev E.G (dal ra) x=some (.rw lab (off*ie.size) b.length ie.size co):=by rw [hx',hsz];rfl
    have hA:=Dc (d:=d) (ty:=ty) (pos:=pos) (after:=after) (g:=g) nl hx2 hy' hu hie hz (by rw [aV];exact hzl) c1 c2 hm hpos hc hc2 hn'
    have h1:=hdl _ rfl
    refine ⟨.rw nl t.sz 0 (b++m).length none true,[(lab,.gone),(nl,.ls t (b++m))],_,AOp.weak hA ?_ (.gone (.one ?_)),trivial,h1.1,h1.2,h⟩
    ·rw [hsz,hlen];simp [DV.pv];exact .refl _
    ·rw [c4,qv];exact hb.le.append hml
   ·simp at hd
  ·simp at h
 ·simp at h
def cpy {α:Type} (l:List α) (off:Nat) (m:List α) (c:Nat):List α:=l.take off++(m.take c++l.drop (off+c))
theorem KQ {α:Type} {e:El α} {l m:List α} {off c:Nat} {cm:List PV} (h1:off+c<=l.length) (h2:c<=m.length) (hm:CLe cm (fl e m)) :
  CLe (dZ (fl e l) (off*e.sz) (cm.take (c*e.sz))) (fl e (cpy l off m c)):=by
 have hl:(cm.take (c*e.sz)).length=c*e.sz:=by
  have:=hm.1
  rw [bM] at this
  rw [List.length_take,this,Nat.min_eq_left (Nat.mul_le_mul_right _ h2)]
 have hl2:(fl e (m.take c)).length=c*e.sz:=by rw [bM,List.length_take,Nat.min_eq_left h2]
 unfold dZ cpy
 rw [hl,<-Nat.add_mul,AT,wA,qv,qv,List.append_assoc]
 refine (CLe.refl _).append (CLe.append ⟨hl.trans hl2.symm,fun i x y hx hy=>?_⟩ (.refl _))
 rw [<-wA] at hy
 rw [List.getElem?_take] at hx hy
 split at hx
 ·rename_i hi;rw [if_pos hi] at hy;exact hm.2 i x y hx hy
 ·simp at hx
def HU (P:Program) (rl:DLb) (T:TypeId) (p q:DV) (k:DV->DLb->DL->Option R):Option R:=match P.underlying T with
 | some (.slice e)=>match P.info? e with
  | some ie=>match p with
   | .rw l sz off n co w=>match lget rl l with
    | some (.ls t ls)=>if sz=t.sz/\ie.size=t.sz then req (off+n<=ls.length) (srcL rl t q fun m=>k (.int .i64 ((min m.length n:Nat):Int)) [(l,.ls t (cpy ls off m (min m.length n)))] [(l,none)]) else none
    | _=>none
   | _=>none
  | none=>none
 | _=>none
theorem HS (hG:E.G=gtPV G) (hal:alOk ra) {T tx:TypeId} {x y:Operand} {p q:DV} (hx:dev G ra x=some p) (hy:dev G ra y=some q)
  (h:HU E.P rl T p q k=some r):OpS E ⟨d,.call ⟨.builtin .copy,#[x,y],#[T,tx]⟩,ty,pos,after,g⟩ ra rl k r:=by
 have hx':=(bT hal hx).1
 have hy':=(bT hal hy).1
 rw [<-hG] at hx' hy'
 unfold HU at h
 split at h
 ·rename_i e hu
  split at h
  ·rename_i ie hie
   split at h
   ·rename_i l sz off n co w
    split at h
    ·rename_i t ls hl
     split at h
     ·rename_i hs;obtain ⟨hs,hs2⟩:=hs;subst hs
      obtain ⟨hb,h⟩:=dK h
      obtain ⟨m,cm,hm,h⟩:=jC h
      have hg:lget (dlb rl) l=some (some (fl (el t) ls)):=by rw [aB,hl];rfl
      have hx2:xev E.G (dal ra) x=some (.rw l (off*t.sz) n ie.size co):=by rw [hx',hs2];rfl
      have hA:=Is (d:=d) (ty:=ty) (pos:=pos) (after:=after) (g:=g) (tx:=tx) hx2 hy' hu hie hg (by rw [bM,hs2,jz,<-Nat.add_mul];exact Nat.mul_le_mul_right _ hb) (by rw [hs2];exact hm.slc) hm.one (m:=min m.length n) rfl
      refine ⟨_,_,_,AOp.weak hA (y:=(DV.int .i64 ((min m.length n:Nat):Int)).pv) (.refl _) (wl':=dlb [(l,.ls t (cpy ls off m (min m.length n)))]) (.one ?_),trivial,?_,?_,h⟩
      ·rw [hs2,<-jz]
       exact KQ (by omega) (by omega) hm.le
      ·intro p hp;simp at hp;subst hp;trivial
      ·intro p hp;simp at hp;subst hp;exact .inl (by simp)
     ·simp at h
    ·simp at h
   ·simp at h
  ·simp at h
 ·simp at h
def loOf (G:GTab) (al:DAl) (o:Option Operand) (dflt:Int):Option Int:=match o with
 | none=>some dflt
 | some o=>match dev G al o with
  | some v=>match me v with
   | some (_,i)=>some i
   | none=>none
  | none=>none
theorem mA (hG:E.G=gtPV G) (hal:alOk ra) {o:Option Operand} {dflt:Nat} {i:Int} (h:loOf G ra o dflt=some i) (h0:0<=i):bnd E.G (dal ra) o dflt i.toNat:=by
 unfold loOf at h
 split at h
 ·simp at h;subst h;rfl
 ·rename_i o
  split at h
  ·rename_i v hv
   split at h
   ·rename_i k i' hi
    simp at h;subst h
    have:=(bT hal hv).1
    rw [jX hi,<-hG] at this
    exact Jk this h0
   ·simp at h
  ·simp at h
def DZ (P:Program) (G:GTab) (al:DAl) (T:TypeId) (rl:DLb) (p:DV) (lo hi:Option Operand) (k:DV->DLb->DL->Option R):Option R:=
 match loOf G al lo 0 with
 | some a=>match P.underlying T with
  | some .string=>match p with
   | .str s=>match loOf G al hi (s.length:Nat) with
    | some b=>req (0<=a/\a<=b/\b<=(s.length:Nat)) (k (.str (sub s a.toNat b.toNat)) [] [])
    | none=>none
   | _=>none
  | some (.slice e)=>match P.info? e with
   | some ie=>match p with
    | .sl t ls=>match loOf G al hi (ls.length:Nat) with
     | some b=>if ie.size=t.sz then req (0<=a/\a<=b/\b<=(ls.length:Nat)) (k (.sl t (sub ls a.toNat b.toNat)) [] []) else none
     | none=>none
    | .rw l sz off n co w=>match loOf G al hi (n:Nat) with
     | some b=>if ie.size=sz/\0<sz then req (0<=a/\a<=b/\b<=(n:Nat)) (k (.rw l sz (a.toNat+off) (b.toNat-a.toNat) none false) [] []) else none
     | none=>none
    | _=>none
   | none=>none
  | some (.array n e)=>match P.info? e with
   | some ie=>match p with
    | .ptr l off=>match lget rl l with
     | some (.cs cs)=>match loOf G al hi (n:Nat) with
      | some b=>if cs.length=n*ie.size/\0<n*ie.size/\off=0/\0<=a/\a<=b/\b<=(n:Nat) then k (.rw l ie.size a.toNat (b.toNat-a.toNat) none false) [] [] else none
      | none=>none
     | _=>none
    | _=>none
   | none=>none
  | _=>none
 | none=>none
theorem FW (hG:E.G=gtPV G) (hal:alOk ra) {T:TypeId} {x:Operand} {lo hi:Option Operand} {p:DV} (hx:dev G ra x=some p)
  (h:DZ E.P G ra T rl p lo hi k=some r):OpS E ⟨d,.slice T x lo hi none,ty,pos,after,g⟩ ra rl k r:=by
 have hx':=(bT hal hx).1
 rw [<-hG] at hx'
 unfold DZ at h
 split at h
 ·rename_i a ha
  split at h
  ·rename_i hu
   split at h
   ·rename_i s
    split at h
    ·rename_i b hb
     obtain ⟨⟨h0,h1,h2⟩,h⟩:=dK h
     exact .val (x:=.str _) (yU hx' hu (mA hG hal ha h0) (mA hG hal hb (by omega)) (by omega) (by omega)) trivial h
    ·simp at h
   ·simp at h
  ·rename_i e hu
   split at h
   ·rename_i ie hie
    split at h
    ·rename_i t ls
     split at h
     ·rename_i b hb
      split at h
      ·rename_i hs
       obtain ⟨⟨h0,h1,h2⟩,h⟩:=dK h
       exact .val (x:=.sl t _) (C9 hx' rfl hu hie (by rw [hs,jz]) (mA hG hal ha h0) (mA hG hal hb (by omega)) (by omega) (by omega) rfl) trivial h
      ·simp at h
     ·simp at h
    ·rename_i l sz off n co w
     split at h
     ·rename_i b hb
      split at h
      ·rename_i hs;obtain ⟨hs,hp⟩:=hs
       obtain ⟨⟨h0,h1,h2⟩,h⟩:=dK h
       refine .val (x:=.rw l sz (a.toNat+off) (b.toNat-a.toNat) none false) (Aa (n:=n) hx' hu hie rfl (mA hG hal ha h0) (mA hG hal hb (by omega)) (by omega) (by omega) ?_ (by omega) (fun _ _ _ h=>by simp [DV.pv] at h)) trivial h
       simp [wI,DV.pv,hs,Nat.add_mul];omega
      ·simp at h
     ·simp at h
    ·simp at h
   ·simp at h
  ·rename_i n e hu
   split at h
   ·rename_i ie hie
    split at h
    ·rename_i l off
     split at h
     ·rename_i cs hl
      split at h
      ·rename_i b hb
       split at h
       ·rename_i hc;obtain ⟨c1,c2,rfl,h0,h1,h2⟩:=hc
        exact .val (x:=.rw l ie.size a.toNat (b.toNat-a.toNat) none false) (By (cells:=DV.pvs cs) ie.size hx' (by rw [aB,hl];rfl) hu hie rfl (by rw [aV];exact c1) c2 (mA hG hal ha h0) (mA hG hal hb (by omega)) (by omega) (by omega)) trivial h
       ·simp at h
      ·simp at h
     ·simp at h
    ·simp at h
   ·simp at h
  ·simp at h
 ·simp at h
end
end Go.SH
namespace Go.SH
theorem jj {α:Type}:∀(wl L:List (Nat×α)) (l:Nat),(∃p∈wl,p.1=l/\lget (lupd L wl) l=some p.2)\/((∀p∈wl,p.1≠l)/\lget (lupd L wl) l=lget L l)
 | [],L,l=>.inr ⟨by simp,rfl⟩
 | (k,y)::r,L,l=>by
  rcases jj r (lset L k y) l with ⟨p,hp,h1,h2⟩ | ⟨h1,h2⟩
  ·exact .inl ⟨p,by simp [hp],h1,h2⟩
  ·by_cases e:k=l
   ·subst e
    refine .inl ⟨(k,y),by simp,rfl,?_⟩
    show lget (lupd (lset L k y) r) k=_
    rw [h2,ax,if_pos rfl]
   ·refine .inr ⟨fun p hp=>?_,?_⟩
    ·rcases List.mem_cons.1 hp with rfl | hp
     ·exact e
     ·exact h1 p hp
    ·show lget (lupd (lset L k y) r) l=_
     rw [h2,ax,if_neg e]
structure St where
 al:DAl
 L:DLb
 ds:List Nat
 dl:DL
def St.ok (s:St):Prop:=alOk s.al/\lbOk s.L
def St.set (s:St) (d:Option Nat) (x:DV):St:=match d with
 | some t=>{ s with al:=(t,x)::s.al,ds:=t::s.ds }
 | none=>s
def St.wr (s:St) (wl:DLb) (dl:DL):St:={ s with L:=lupd s.L wl,dl:=dl++s.dl }
def St.clean (s:St):St:={ s with ds:=[],dl:=[] }
structure Ext (b s:St):Prop where
 sl:∀t,t ∉ s.ds->lget s.al t=lget b.al t
 lb:∀l,(∀i,(l,i) ∉ s.dl)->lget s.L l=lget b.L l
 ce:∀l cs0,(l,none) ∉ s.dl->lget b.L l=some (.cs cs0)->∃cs,lget s.L l=some (.cs cs)/\cs.length=cs0.length/\∀i,(l,some i) ∉ s.dl->cs[i]?=cs0[i]?
theorem Ext.refl (s:St):Ext s s:=⟨fun _ _=>rfl,fun _ _=>rfl,fun l cs0 _ h=>⟨cs0,h,rfl,fun _ _=>rfl⟩⟩
theorem Ext.set {b s:St} (h:Ext b s) (d:Option Nat) (x:DV):Ext b (s.set d x):=by
 cases d with
 | none=>exact h
 | some t=>
  refine ⟨fun u hu=>?_,h.lb,h.ce⟩
  simp only [St.set,List.mem_cons,not_or] at hu ⊢
  rw [lget,if_neg (fun e=>hu.1 e.symm)]
  exact h.sl u hu.2
theorem Ext.wr {b s:St} (h:Ext b s) {wl:DLb} {dl:DL} (hd:oY s.L wl dl):Ext b (s.wr wl dl):=by
 refine ⟨h.sl,fun l hl=>?_,fun l cs0 hl h0=>?_⟩
 ·simp only [St.wr,List.mem_append,not_or] at hl ⊢
  rcases jj wl s.L l with ⟨p,hp,rfl,h2⟩ | ⟨_,h2⟩
  ·rcases hd p hp with h3 | ⟨cs,cs',h3,h4,h5,h6⟩
   ·exact absurd h3 (hl none).1
   ·rw [h2,h4,<-h.lb p.1 (fun i=>(hl i).2),h3]
    congr 2
    exact List.ext_getElem? fun i=>h6 i (hl (some i)).1
  ·rw [h2];exact h.lb l fun i=>(hl i).2
 ·simp only [St.wr,List.mem_append,not_or] at hl ⊢
  obtain ⟨cs,h1,h2,h3⟩:=h.ce l cs0 hl.2 h0
  rcases jj wl s.L l with ⟨p,hp,rfl,h4⟩ | ⟨_,h4⟩
  ·rcases hd p hp with h5 | ⟨c1,c2,h5,h6,h7,h8⟩
   ·exact absurd h5 hl.1
   ·rw [h1] at h5;simp at h5;subst h5
    refine ⟨c2,by rw [h4,h6],by rw [h7,h2],fun i hi=>?_⟩
    rw [h8 i hi.1];exact h3 i hi.2
  ·exact ⟨cs,by rw [h4];exact h1,h2,fun i hi=>h3 i hi.2⟩
def Up (s s':St):Prop:=∀b,Ext b s->Ext b s'
theorem Up.refl (s:St):Up s s:=fun _ h=>h
theorem Up.trans {s s' s'':St} (h:Up s s') (h':Up s' s''):Up s s'':=fun b k=>h' b (h b k)
theorem RenC.of_get {τ:Nat->Nat} {S:Nat->Bool}:∀{xs ys:List PV},xs.length=ys.length->(∀(i:Nat) (x y:PV),xs[i]?=some x->ys[i]?=some y->Ren τ S x y)->RenC τ S xs ys
 | [],[],_,_=>.nil
 | [],_::_,h,_=>by simp at h
 | _::_,[],h,_=>by simp at h
 | x::xs,y::ys,h,k=>.cons (k 0 x y rfl rfl) (.of_get (by simpa using h) fun i a b ha hb=>k (i+1) a b (by simpa using ha) (by simpa using hb))
theorem RenC.append {τ:Nat->Nat} {S:Nat->Bool} {xs ys xs' ys':List PV} (h:RenC τ S xs ys) (h':RenC τ S xs' ys'):RenC τ S (xs++xs') (ys++ys'):=by
 obtain ⟨h1,h2⟩:=h.get
 obtain ⟨h3,h4⟩:=h'.get
 refine .of_get (by simp [h1,h3]) fun i x y hx hy=>?_
 by_cases hi:i<xs.length
 ·rw [List.getElem?_append_left hi] at hx;rw [List.getElem?_append_left (by omega)] at hy;exact h2 i x y hx hy
 ·rw [List.getElem?_append_right (by omega)] at hx;rw [List.getElem?_append_right (by omega),<-h1] at hy;exact h4 _ x y hx hy
theorem Ag {τ:Nat->Nat} {S:Nat->Bool}:∀(t:ET) {cs r:List DV} {x:t.T},t.un cs=some (x,r)->∃ds,cs=ds++r/\RenC τ S (DV.pvs ds) ((el t).pv x):=by
 intro t
 induction t with
 | ti k=>intro cs r x h;obtain ⟨d,rfl,h1⟩:=cA h;obtain rfl:=yr h1;exact ⟨[.int _ _],rfl,.pure rfl⟩
 | tu=>intro cs r x h;obtain ⟨d,rfl,h1⟩:=cA h;exact ⟨[d],rfl,by rw [DV.pvs,Bl h1];exact .pure rfl⟩
 | tb=>intro cs r x h;obtain ⟨d,rfl,h1⟩:=cA h;obtain rfl:=Bp h1;exact ⟨[.bool _],rfl,.pure rfl⟩
 | ts=>intro cs r x h;obtain ⟨d,rfl,h1⟩:=cA h;obtain rfl:=Bm h1;exact ⟨[.str _],rfl,.pure rfl⟩
 | tn=>intro cs r x h;simp [ET.un] at h
 | tl t _=>
  intro cs r x h;obtain ⟨d,rfl,h1⟩:=cA h
  rcases Bn h1 with ⟨rfl,rfl⟩ | rfl
  ·exact ⟨[.nils],rfl,.cons .nilsRo .nil⟩
  ·exact ⟨[.sl _ _],rfl,.pure ((el (.tl t)).hpure x)⟩
 | tf q t _=>
  intro cs r x h;obtain ⟨d,rfl,h1⟩:=cA h
  rcases Bo h1 with ⟨rfl,rfl⟩ | rfl
  ·exact ⟨[.nils],rfl,.cons .nilsFs .nil⟩
  ·exact ⟨[.fsl _ _ _],rfl,.pure ((el (.tf q t)).hpure x)⟩
 | tp a c iha ihc=>
  intro cs r x h
  simp only [ET.un] at h
  split at h
  ·rename_i x1 r1 h1
   split at h
   ·rename_i x2 r2 h2
    simp at h;obtain ⟨rfl,rfl⟩:=h
    obtain ⟨d1,rfl,e1⟩:=iha h1
    obtain ⟨d2,rfl,e2⟩:=ihc h2
    exact ⟨d1++d2,by simp,by rw [eE];exact e1.append e2⟩
   ·simp at h
  ·simp at h
abbrev TV:=Sigma ET.T
inductive Sh where
 | h (t:ET)
 | st (t:ET)
 | k (d:DV)
 | ptr (l o:Nat)
 | rww (l sz:Nat)
 | rwf (l sz:Nat)
 | fn (f:FuncId) (cs:List Sh)
 | iface (t:TypeId) (s:Sh)
 | agg (cs:List Sh)
 | tup (cs:List Sh)
structure GS where
 vs:List TV
 m:List (Nat×Nat)
 q:List (Nat×Nat)
def GS.lab (g:GS) (l l':Nat):Option GS:=match lget g.m l with
 | some x=>if x=l' then some g else none
 | none=>some { g with m:=(l,l')::g.m }
def GS.put (g:GS) (x:TV):GS:={ g with vs:=g.vs++[x] }
def wD:DV->DV->Bool
 | .dead,.dead=>true
 | .nilp,.nilp=>true
 | .nils,.nils=>true
 | .nilf,.nilf=>true
 | .nili,.nili=>true
 | .int k n,.int k' n'=>decide (k=k')&&decide (n=n')
 | .bool b,.bool b'=>b==b'
 | _,_=>false
theorem yl {a b:DV} (h:wD a b=true):a=b/\j9 a.pv=true/\a.ok:=by
 unfold wD at h
 split at h
 ·exact ⟨rfl,rfl,trivial⟩
 ·exact ⟨rfl,rfl,trivial⟩
 ·exact ⟨rfl,rfl,trivial⟩
 ·exact ⟨rfl,rfl,trivial⟩
 ·exact ⟨rfl,rfl,trivial⟩
 ·simp at h;obtain ⟨rfl,rfl⟩:=h;exact ⟨rfl,rfl,trivial⟩
 ·simp at h;subst h;exact ⟨rfl,rfl,trivial⟩
 ·simp at h
mutual
def Sh.get (fr:Nat):Sh->DV->GS->Option GS
 | .h t,d,g=>match t.one [d] with
  | some x=>some (g.put ⟨t,x⟩)
  | none=>none
 | .st t,d,g=>match d with
  | .agg ds=>match t.one ds with
   | some x=>some (g.put ⟨t,x⟩)
   | none=>none
  | _=>none
 | .k c,d,g=>if wD c d=true then some g else none
 | .ptr l o,d,g=>match d with
  | .ptr l' o'=>if o=o' then g.lab l l' else none
  | _=>none
 | .rww l sz,d,g=>match d with
  | .rw l' sz' off n _ _=>if sz=sz'/\off=0 then match g.lab l l' with
   | some g=>some { g with q:=(l,n)::g.q }
   | none=>none else none
  | .nils=>match g.lab l (fr+l) with
   | some g=>some { g with q:=(l,0)::g.q }
   | none=>none
  | _=>none
 | .rwf l sz,d,g=>match d with
  | .rw l' sz' off n _ _=>if sz=sz' then match g.lab l l' with
   | some g=>some ((g.put ⟨.tn,off⟩).put ⟨.tn,n⟩)
   | none=>none else none
  | _=>none
 | .fn f cs,d,g=>match d with
  | .fn f' ds=>if f=f' then Sh.gets fr cs ds g else none
  | _=>none
 | .iface t s,d,g=>match d with
  | .iface t' d'=>if t=t' then s.get fr d' g else none
  | _=>none
 | .agg cs,d,g=>match d with
  | .agg ds=>Sh.gets fr cs ds g
  | _=>none
 | .tup cs,d,g=>match d with
  | .tup ds=>Sh.gets fr cs ds g
  | _=>none
def Sh.gets (fr:Nat):List Sh->List DV->GS->Option GS
 | [],ds,g=>match ds with
  | []=>some g
  | _::_=>none
 | s::ss,ds,g=>match ds with
  | []=>none
  | d::ds=>match s.get fr d g with
   | some g=>Sh.gets fr ss ds g
   | none=>none
end
mutual
def Sh.n:Sh->Nat
 | .h _=>1
 | .st _=>1
 | .k _=>0
 | .ptr _ _=>0
 | .rww _ _=>0
 | .rwf _ _=>2
 | .fn _ cs=>Sh.ns cs
 | .iface _ s=>s.n
 | .agg cs=>Sh.ns cs
 | .tup cs=>Sh.ns cs
def Sh.ns:List Sh->Nat
 | []=>0
 | s::ss=>s.n+Sh.ns ss
end
mutual
def Sh.hs:Sh->List ET
 | .h t=>[t]
 | .st t=>[t]
 | .k _=>[]
 | .ptr _ _=>[]
 | .rww _ _=>[]
 | .rwf _ _=>[.tn,.tn]
 | .fn _ cs=>Sh.hss cs
 | .iface _ s=>s.hs
 | .agg cs=>Sh.hss cs
 | .tup cs=>Sh.hss cs
def Sh.hss:List Sh->List ET
 | []=>[]
 | s::ss=>s.hs++Sh.hss ss
end
def xv:List DV->DV
 | [d]=>d
 | _=>.dead
def JV:List TV->Nat
 | ⟨.tn,n⟩::_=>n
 | _=>0
mutual
def Sh.mk (len:Nat->Nat):Sh->List TV->DV×List TV
 | .h _,vs=>match vs with
  | ⟨t,x⟩::r=>(xv (t.cells x),r)
  | []=>(.dead,[])
 | .st _,vs=>match vs with
  | ⟨t,x⟩::r=>(.agg (t.cells x),r)
  | []=>(.dead,[])
 | .k c,vs=>(c,vs)
 | .ptr l o,vs=>(.ptr l o,vs)
 | .rww l sz,vs=>(.rw l sz 0 (len l) none true,vs)
 | .rwf l sz,vs=>(.rw l sz (JV vs) (JV (vs.drop 1)) none false,vs.drop 2)
 | .fn f cs,vs=>match Sh.mks len cs vs with
  | (ds,r)=>(.fn f ds,r)
 | .iface t s,vs=>match s.mk len vs with
  | (d,r)=>(.iface t d,r)
 | .agg cs,vs=>match Sh.mks len cs vs with
  | (ds,r)=>(.agg ds,r)
 | .tup cs,vs=>match Sh.mks len cs vs with
  | (ds,r)=>(.tup ds,r)
def Sh.mks (len:Nat->Nat):List Sh->List TV->List DV×List TV
 | [],vs=>([],vs)
 | s::ss,vs=>match s.mk len vs with
  | (d,r)=>match Sh.mks len ss r with
   | (ds,r')=>(d::ds,r')
end
def yv (τ:Nat->Nat) (S:Nat->Bool) (g:GS):Prop:=∀p∈g.m,τ p.1=p.2/\S p.1=true
def GS.Sub (g g':GS):Prop:=(∀p∈g.m,p∈g'.m)/\(∀p∈g.q,p∈g'.q)
theorem GS.Sub.refl (g:GS):g.Sub g:=⟨fun _ h=>h,fun _ h=>h⟩
theorem GS.Sub.trans {a b c:GS} (h:a.Sub b) (h':b.Sub c):a.Sub c:=⟨fun p k=>h'.1 p (h.1 p k),fun p k=>h'.2 p (h.2 p k)⟩
theorem oO {g g':GS} {l l':Nat} (h:g.lab l l'=some g'):g'.vs=g.vs/\g'.q=g.q/\(∀p∈g.m,p∈g'.m)/\(l,l')∈g'.m:=by
 unfold GS.lab at h
 split at h
 ·rename_i x hx
  split at h
  ·rename_i e;simp at h;subst h;subst e
   exact ⟨rfl,rfl,fun _ h=>h,aw hx⟩
  ·simp at h
 ·simp at h;subst h
  exact ⟨rfl,rfl,fun p hp=>List.mem_cons_of_mem _ hp,by simp⟩
def Ms (d:DV) (g g':GS) (n:Nat) (mk:(Nat->Nat)->List TV->DV×List TV):Prop:=
 g.Sub g'/\∃xs,g'.vs=g.vs++xs/\xs.length=n/\∀len rest τ S,yv τ S g'->(∀p∈g'.q,p.2=len p.1)->(mk len (xs++rest)).2=rest/\Ren τ S d.pv (mk len (xs++rest)).1.pv/\(mk len (xs++rest)).1.ok
def K0 (ds:List DV) (g g':GS) (n:Nat) (mk:(Nat->Nat)->List TV->List DV×List TV):Prop:=
 g.Sub g'/\∃xs,g'.vs=g.vs++xs/\xs.length=n/\∀len rest τ S,yv τ S g'->(∀p∈g'.q,p.2=len p.1)->(mk len (xs++rest)).2=rest/\RenC τ S (DV.pvs ds) (DV.pvs (mk len (xs++rest)).1)/\DV.oks (mk len (xs++rest)).1
def Sh.mk' (s:Sh):(Nat->Nat)->List TV->DV×List TV:=fun len vs=>s.mk len vs
theorem AB {t:ET} {d:DV} {x:t.T} {τ:Nat->Nat} {S:Nat->Bool} (h:t.one [d]=some x):Ren τ S d.pv (xv (t.cells x)).pv/\(xv (t.cells x)).ok:=by
 unfold ET.one at h
 split at h
 ·rename_i y hy
  simp at h;subst h
  cases t with
  | ti k=>obtain ⟨d',e,h1⟩:=cA hy;simp at e;subst e;obtain rfl:=yr h1;exact ⟨.pure rfl,trivial⟩
  | tu=>obtain ⟨d',e,h1⟩:=cA hy;simp at e;subst e;rw [Bl h1];exact ⟨.pure rfl,trivial⟩
  | tb=>obtain ⟨d',e,h1⟩:=cA hy;simp at e;subst e;obtain rfl:=Bp h1;exact ⟨.pure rfl,trivial⟩
  | ts=>obtain ⟨d',e,h1⟩:=cA hy;simp at e;subst e;obtain rfl:=Bm h1;exact ⟨.pure rfl,trivial⟩
  | tn=>simp [ET.un] at hy
  | tl t=>
   obtain ⟨d',e,h1⟩:=cA hy;simp at e;subst e
   rcases Bn h1 with ⟨rfl,rfl⟩ | rfl
   ·exact ⟨.nilsRo,trivial⟩
   ·exact ⟨.pure (by simp [pureF,DV.pv,fG]),trivial⟩
  | tf q t=>
   obtain ⟨d',e,h1⟩:=cA hy;simp at e;subst e
   rcases Bo h1 with ⟨rfl,rfl⟩ | rfl
   ·exact ⟨.nilsFs,trivial⟩
   ·exact ⟨.pure (by simp [pureF,DV.pv,fG]),trivial⟩
  | tp a c=>
   have h1:=(Gy (.tp a c) hy)
   obtain ⟨ds,e,h2⟩:=h1
   have h3:=h2.1
   have h4:=a.sz_pos
   have h5:=c.sz_pos
   rw [(el (.tp a c)).hsz,jz,aV] at h3
   have h6:ds.length=1:=by simpa using (congrArg List.length e).symm
   rw [h6] at h3
   simp only [ET.sz] at h3
   omega
 ·simp at h
mutual
theorem va (fr:Nat):∀(s:Sh) {d:DV} {g g':GS},s.get fr d g=some g'->Ms d g g' s.n s.mk'
 | .h t,d,g,g',h=>by
  simp only [Sh.get] at h
  split at h
  ·rename_i x hx
   simp at h;subst h
   exact ⟨.refl _,[⟨t,x⟩],rfl,rfl,fun len rest τ S _ _=>⟨rfl,AB hx⟩⟩
  ·simp at h
 | .st t,d,g,g',h=>by
  simp only [Sh.get] at h
  split at h
  ·rename_i ds
   split at h
   ·rename_i x hx
    simp at h;subst h
    refine ⟨.refl _,[⟨t,x⟩],rfl,rfl,fun len rest τ S _ _=>⟨rfl,?_,i8 t x⟩⟩
    unfold ET.one at hx
    split at hx
    ·rename_i y hy
     simp at hx;subst hx
     obtain ⟨ds',e,hr⟩:=Ag (τ:=τ) (S:=S) t hy
     rw [List.append_nil] at e;subst e
     simp only [Sh.mk',Sh.mk,List.cons_append,DV.pv]
     rw [n8]
     exact .agg hr.get.1 hr.get.2
    ·simp at hx
   ·simp at h
  ·simp at h
 | .k c,d,g,g',h=>by
  simp only [Sh.get] at h
  split at h
  ·rename_i hc
   simp at h;subst h
   obtain ⟨rfl,h1,h2⟩:=yl hc
   exact ⟨.refl _,[],by simp,rfl,fun len rest τ S _ _=>⟨rfl,.pure (IL h1),h2⟩⟩
  ·simp at h
 | .ptr l o,d,g,g',h=>by
  simp only [Sh.get] at h
  split at h
  ·split at h
   ·rename_i e;subst e
    obtain ⟨h1,h2,h3,h4⟩:=oO h
    exact ⟨⟨h3,fun p hp=>h2▸hp⟩,[],by simp [h1],rfl,fun len rest τ S hm _=>⟨rfl,.ptr (hm _ h4).2 (hm _ h4).1,trivial⟩⟩
   ·simp at h
  ·simp at h
 | .rww l sz,d,g,g',h=>by
  simp only [Sh.get] at h
  split at h
  ·rename_i l' sz' off n co w
   split at h
   ·rename_i e;obtain ⟨rfl,rfl⟩:=e
    split at h
    ·rename_i g1 hg
     simp at h;subst h
     obtain ⟨h1,h2,h3,h4⟩:=oO hg
     refine ⟨⟨h3,fun p hp=>List.mem_cons_of_mem _ (h2▸hp)⟩,[],by simp [h1],rfl,fun len rest τ S hm hq=>⟨rfl,?_,trivial⟩⟩
     have e:=hq (l,n) (by simp)
     simp only [Sh.mk',Sh.mk,DV.pv,List.nil_append]
     rw [<-e]
     exact .rwCo (hm _ h4).2 (hm _ h4).1
    ·simp at h
   ·simp at h
  ·split at h
   ·rename_i g1 hg
    simp at h;subst h
    obtain ⟨h1,h2,h3,h4⟩:=oO hg
    refine ⟨⟨h3,fun p hp=>List.mem_cons_of_mem _ (h2▸hp)⟩,[],by simp [h1],rfl,fun len rest τ S hm hq=>⟨rfl,?_,trivial⟩⟩
    have e:=hq (l,0) (by simp)
    simp only [Sh.mk',Sh.mk,DV.pv,List.nil_append]
    rw [<-e]
    simp only [Nat.zero_mul]
    exact .nilsRw (hm _ h4).2
   ·simp at h
  ·simp at h
 | .rwf l sz,d,g,g',h=>by
  simp only [Sh.get] at h
  split at h
  ·rename_i l' sz' off n co w
   split at h
   ·rename_i e;subst e
    split at h
    ·rename_i g1 hg
     simp at h;subst h
     obtain ⟨h1,h2,h3,h4⟩:=oO hg
     refine ⟨⟨h3,fun p hp=>h2▸hp⟩,[⟨.tn,off⟩,⟨.tn,n⟩],by simp [GS.put,h1],rfl,fun len rest τ S hm hq=>⟨rfl,?_,trivial⟩⟩
     exact .rwCo (hm _ h4).2 (hm _ h4).1
    ·simp at h
   ·simp at h
  ·simp at h
 | .fn f cs,d,g,g',h=>by
  simp only [Sh.get] at h
  split at h
  ·rename_i f' ds
   split at h
   ·rename_i e;subst e
    obtain ⟨h1,xs,h2,h3,h4⟩:=mg fr cs h
    refine ⟨h1,xs,h2,h3,fun len rest τ S hm hq=>?_⟩
    obtain ⟨e1,e2,e3⟩:=h4 len rest τ S hm hq
    exact ⟨e1,.fn e2.get.1 e2.get.2,e3⟩
   ·simp at h
  ·simp at h
 | .iface t s,d,g,g',h=>by
  simp only [Sh.get] at h
  split at h
  ·rename_i t' d'
   split at h
   ·rename_i e;subst e
    obtain ⟨h1,xs,h2,h3,h4⟩:=va fr s h
    refine ⟨h1,xs,h2,h3,fun len rest τ S hm hq=>?_⟩
    obtain ⟨e1,e2,e3⟩:=h4 len rest τ S hm hq
    exact ⟨e1,.iface e2,e3⟩
   ·simp at h
  ·simp at h
 | .agg cs,d,g,g',h=>by
  simp only [Sh.get] at h
  split at h
  ·rename_i ds
   obtain ⟨h1,xs,h2,h3,h4⟩:=mg fr cs h
   refine ⟨h1,xs,h2,h3,fun len rest τ S hm hq=>?_⟩
   obtain ⟨e1,e2,e3⟩:=h4 len rest τ S hm hq
   exact ⟨e1,.agg e2.get.1 e2.get.2,e3⟩
  ·simp at h
 | .tup cs,d,g,g',h=>by
  simp only [Sh.get] at h
  split at h
  ·rename_i ds
   obtain ⟨h1,xs,h2,h3,h4⟩:=mg fr cs h
   refine ⟨h1,xs,h2,h3,fun len rest τ S hm hq=>?_⟩
   obtain ⟨e1,e2,e3⟩:=h4 len rest τ S hm hq
   exact ⟨e1,.tup e2.get.1 e2.get.2,e3⟩
  ·simp at h
theorem mg (fr:Nat):∀(ss:List Sh) {ds:List DV} {g g':GS},Sh.gets fr ss ds g=some g'->K0 ds g g' (Sh.ns ss) (fun len vs=>Sh.mks len ss vs)
 | [],ds,g,g',h=>by
  simp only [Sh.gets] at h
  split at h
  ·simp at h;subst h
   exact ⟨.refl _,[],by simp,rfl,fun len rest τ S _ _=>⟨rfl,.nil,trivial⟩⟩
  ·simp at h
 | s::ss,ds,g,g',h=>by
  simp only [Sh.gets] at h
  split at h
  ·simp at h
  ·rename_i d ds
   split at h
   ·rename_i g1 h1
    obtain ⟨a1,xs,a2,a3,a4⟩:=va fr s h1
    obtain ⟨b1,ys,b2,b3,b4⟩:=mg fr ss h
    refine ⟨a1.trans b1,xs++ys,by rw [b2,a2,List.append_assoc],by simp [a3,b3,Sh.ns],fun len rest τ S hm hq=>?_⟩
    obtain ⟨c1,c2,c3⟩:=a4 len (ys++rest) τ S (fun p hp=>hm p (b1.1 p hp)) (fun p hp=>hq p (b1.2 p hp))
    obtain ⟨d1,d2,d3⟩:=b4 len rest τ S hm hq
    simp only [Sh.mks,List.append_assoc]
    simp only [Sh.mk'] at c1 c2 c3
    rw [c1]
    exact ⟨d1,.cons c2 d2,c3,d3⟩
   ·simp at h
end
end Go.SH
namespace Go.SH
inductive LSh where
 | ls (t:ET)
 | cs (l:List Sh)
structure Tm where
 slots:List (Nat×Sh)
 kill:List Nat
 labs:List (Nat×LSh)
 cups:List (Nat×Nat×Sh)
 killL:List Nat
@[reducible] def HT:List ET->Type
 | []=>Unit
 | [t]=>t.T
 | t::u::r=>t.T×HT (u::r)
def ai:(ts:List ET)->HT ts->List TV
 | [],_=>[]
 | [t],v=>[⟨t,v⟩]
 | t::u::r,v=>⟨t,v.1⟩::ai (u::r) v.2
def Fa (t:ET):TV->Option t.T
 | ⟨t',x⟩=>if h:t'=t then some (h▸x) else none
theorem CQ {t:ET} {x:TV} {y:t.T} (h:Fa t x=some y):x=⟨t,y⟩:=by
 obtain ⟨t',x⟩:=x
 simp only [Fa] at h
 split at h
 ·rename_i e;subst e;simp at h;subst h;rfl
 ·simp at h
def pack:(ts:List ET)->List TV->Option (HT ts)
 | [],vs=>match vs with
  | []=>some ()
  | _::_=>none
 | [t],vs=>match vs with
  | [x]=>Fa t x
  | _=>none
 | t::u::r,vs=>match vs with
  | []=>none
  | x::vs=>match Fa t x with
   | some y=>match pack (u::r) vs with
    | some z=>some (y,z)
    | none=>none
   | none=>none
theorem sX:∀{ts:List ET} {vs:List TV} {v:HT ts},pack ts vs=some v->ai ts v=vs
 | [],vs,v,h=>by
  simp only [pack] at h
  split at h
  ·rfl
  ·simp at h
 | [t],vs,v,h=>by
  simp only [pack] at h
  split at h
  ·rename_i x;rw [CQ h];rfl
  ·simp at h
 | t::u::r,vs,v,h=>by
  simp only [pack] at h
  split at h
  ·simp at h
  ·rename_i x vs
   split at h
   ·rename_i y hy
    split at h
    ·rename_i z hz
     simp at h;subst h
     rw [CQ hy]
     show (⟨t,y⟩:TV)::ai (u::r) z=_
     rw [sX hz]
    ·simp at h
   ·simp at h
def getS (fr:Nat) (al:DAl):List (Nat×Sh)->GS->Option GS
 | [],g=>some g
 | (t,s)::r,g=>match lget al t with
  | some d=>match s.get fr d g with
   | some g=>getS fr al r g
   | none=>none
  | none=>none
def nS:List (Nat×Sh)->Nat
 | []=>0
 | (_,s)::r=>s.n+nS r
def mkS (len:Nat->Nat):List (Nat×Sh)->List TV->DAl×List TV
 | [],vs=>([],vs)
 | (t,s)::r,vs=>match s.mk len vs with
  | (d,vs)=>match mkS len r vs with
   | (ds,vs)=>((t,d)::ds,vs)
def LSh.get (fr:Nat):LSh->Option DC->GS->Option GS
 | .ls t,c,g=>match c with
  | some (.ls t' l)=>if h:t'=t then some (g.put ⟨.tl t,(h▸l:List t.T)⟩) else none
  | some (.cs ds)=>match t.all ds.length ds with
   | some l=>some (g.put ⟨.tl t,l⟩)
   | none=>none
  | some .gone=>none
  | none=>some (g.put ⟨.tl t,([]:List t.T)⟩)
 | .cs ss,c,g=>match c with
  | some (.cs ds)=>Sh.gets fr ss ds g
  | _=>none
def LSh.n:LSh->Nat
 | .ls _=>1
 | .cs ss=>Sh.ns ss
def LSh.mk (len:Nat->Nat):LSh->List TV->DC×List TV
 | .ls t,vs=>match vs with
  | ⟨.tl t',l⟩::r=>(.ls t' l,r)
  | _=>(.gone,[])
 | .cs ss,vs=>match Sh.mks len ss vs with
  | (ds,r)=>(.cs ds,r)
def getL (fr:Nat) (L:DLb):List (Nat×LSh)->GS->Option GS
 | [],g=>some g
 | (l,s)::r,g=>match g.lab l (lk g.m l) with
  | some g'=>match s.get fr (lget L (lk g.m l)) g' with
   | some g=>getL fr L r g
   | none=>none
  | none=>none
def mkL (len:Nat->Nat):List (Nat×LSh)->List TV->DLb×List TV
 | [],vs=>([],vs)
 | (l,s)::r,vs=>match s.mk len vs with
  | (c,vs)=>match mkL len r vs with
   | (cs,vs)=>((l,c)::cs,vs)
def lenT:List (Nat×LSh)->List TV->List (Nat×Nat)
 | [],_=>[]
 | (l,.ls _)::r,vs=>match vs with
  | ⟨.tl _,x⟩::vs=>(l,x.length)::lenT r vs
  | _=>[]
 | (_,.cs ss)::r,vs=>lenT r (vs.drop (Sh.ns ss))
def lenC:Option DC->Nat
 | some (.ls _ l)=>l.length
 | _=>0
def lenF (tab:List (Nat×Nat)) (L:DLb) (l:Nat):Nat:=match lget tab l with
 | some n=>n
 | none=>lenC (lget L l)
def getC (fr:Nat) (L:DLb):List (Nat×Nat×Sh)->GS->Option GS
 | [],g=>some g
 | (l,i,s)::r,g=>match lget L l with
  | some (.cs cs)=>match cs[i]? with
   | some d=>match s.get fr d g with
    | some g=>getC fr L r g
    | none=>none
   | none=>none
  | _=>none
def mkC (len:Nat->Nat):List (Nat×Nat×Sh)->List TV->List (Nat×Nat×DV)×List TV
 | [],vs=>([],vs)
 | (l,i,s)::r,vs=>match s.mk len vs with
  | (d,vs)=>match mkC len r vs with
   | (ds,vs)=>((l,i,d)::ds,vs)
def hsS:List (Nat×Sh)->List ET
 | []=>[]
 | (_,s)::r=>s.hs++hsS r
def hsL:List (Nat×LSh)->List ET
 | []=>[]
 | (_,.ls t)::r=>.tl t::hsL r
 | (_,.cs ss)::r=>Sh.hss ss++hsL r
def hsC:List (Nat×Nat×Sh)->List ET
 | []=>[]
 | (_,_,s)::r=>s.hs++hsC r
def Tm.hs (tm:Tm):List ET:=hsS tm.slots++hsL tm.labs++hsC tm.cups
abbrev Tm.T (tm:Tm):Type:=HT tm.hs
def ded {α:Type}:List Nat->List (Nat×α)->List (Nat×α)
 | _,[]=>[]
 | s,(t,d)::r=>match s.elem t with
  | true=>ded s r
  | false=>(t,d)::ded (t::s) r
theorem kJ {α:Type}:∀{l:List (Nat×α)} {s:List Nat} {p:Nat×α},p∈ded s l->p.1 ∉ s/\lget l p.1=some p.2
 | [],s,p,h=>by simp [ded] at h
 | (t,d)::r,s,p,h=>by
  simp only [ded] at h
  split at h
  ·rename_i e
   obtain ⟨h1,h2⟩:=kJ h
   have:t∈s:=by simpa using e
   refine ⟨h1,?_⟩
   rw [lget,if_neg (fun e2=>h1 (by rw [<-e2];exact this))];exact h2
  ·rename_i e
   rcases List.mem_cons.1 h with rfl | h
   ·exact ⟨by simpa using e,by simp [lget]⟩
   ·obtain ⟨h1,h2⟩:=kJ h
    simp at h1
    exact ⟨h1.2,by rw [lget,if_neg (fun e=>h1.1 e.symm)];exact h2⟩
def cupD (cu:List (Nat×Nat×DV)) (l i:Nat) (d:DV):DV:=match cu with
 | []=>d
 | (l',i',e)::r=>if l'=l/\i'=i then e else cupD r l i d
def cupM (cu:List (Nat×Nat×DV)) (l:Nat):Nat->List DV->List DV
 | _,[]=>[]
 | i,d::r=>cupD cu l i d::cupM cu l (i+1) r
def cupL (cu:List (Nat×Nat×DV)) (kl:List Nat) (l:Nat):DC->DC
 | .cs cs=>match kl.elem l with
  | true=>.gone
  | false=>.cs (cupM cu l 0 cs)
 | c=>match kl.elem l with
  | true=>.gone
  | false=>c
def Tm.appL (tm:Tm) (vs:List TV) (b:St):St:=
 let vl:=vs.drop (nS tm.slots)
 let len:=lenF (lenT tm.labs vl) b.L
 let sl:=mkS len tm.slots vs
 let lb:=mkL len tm.labs sl.2
 let cu:=mkC len tm.cups lb.2
 {al:=sl.1++ded (tm.slots.map (·.1)++tm.kill) b.al
  L:=lb.1++(ded (tm.labs.map (·.1)) b.L).map fun p=>(p.1,cupL cu.1 tm.killL p.1 p.2)
  ds:=tm.slots.map (·.1)++tm.kill++b.ds
  dl:=tm.labs.map (fun p=>(p.1,none))++tm.cups.map (fun p=>(p.1,some p.2.1))++tm.killL.map (fun l=>(l,none))++b.dl }
def Tm.app (tm:Tm) (v:tm.T) (b:St):St:=tm.appL (ai tm.hs v) b
mutual
def DV.labs (f:Nat->Bool):DV->Bool
 | .ptr l _=>f l
 | .lp l _ _ _=>f l
 | .rw l _ _ _ _ _=>f l
 | .fn _ cs=>DV.labsL f cs
 | .iface _ v=>v.labs f
 | .agg cs=>DV.labsL f cs
 | .tup cs=>DV.labsL f cs
 | _=>true
def DV.labsL (f:Nat->Bool):List DV->Bool
 | []=>true
 | d::r=>d.labs f&&DV.labsL f r
end
mutual
theorem tP {τ:Nat->Nat} {S:Nat->Bool} {f:Nat->Bool} (hf:∀l,f l=true->τ l=l/\S l=true):∀{d:DV},d.labs f=true->Ren τ S d.pv d.pv
 | .dead,_=>.pure rfl
 | .int _ _,_=>.pure rfl
 | .by _,_=>.pure rfl
 | .bool _,_=>.pure rfl
 | .str _,_=>.pure rfl
 | .nilp,_=>.pure rfl
 | .nils,_=>.pure rfl
 | .nilf,_=>.pure rfl
 | .nili,_=>.pure rfl
 | .ptr l _,h=>.ptr (hf l h).2 (hf l h).1
 | .lp l _ _ _,h=>.ptr (hf l h).2 (hf l h).1
 | .ep _ _ _ _ _,_=>.pure (by simp [pureF,DV.pv,fG])
 | .gp _ _,_=>.pure (by simp [pureF,DV.pv,fG])
 | .sl _ _,_=>.pure (by simp [pureF,DV.pv,fG])
 | .fsl _ _ _,_=>.pure (by simp [pureF,DV.pv,fG])
 | .rw l _ _ _ _ _,h=>.rw (hf l h).2 (hf l h).1
 | .fn _ cs,h=>by have:=(qp hf (ds:=cs) h).get;exact .fn this.1 this.2
 | .iface _ v,h=>.iface (tP hf (d:=v) h)
 | .agg cs,h=>by have:=(qp hf (ds:=cs) h).get;exact .agg this.1 this.2
 | .tup cs,h=>by have:=(qp hf (ds:=cs) h).get;exact .tup this.1 this.2
theorem qp {τ:Nat->Nat} {S:Nat->Bool} {f:Nat->Bool} (hf:∀l,f l=true->τ l=l/\S l=true):∀{ds:List DV},DV.labsL f ds=true->RenC τ S (DV.pvs ds) (DV.pvs ds)
 | [],_=>.nil
 | d::r,h=>by
  simp only [DV.labsL,Bool.and_eq_true] at h
  exact .cons (tP hf h.1) (qp hf h.2)
end
def DX (f:Nat->Bool):DC->Bool
 | .cs cs=>DV.labsL f cs
 | _=>true
def reqs {R:Type} (len:Nat->Nat):List (Nat×Nat)->Option R->Option R
 | [],k=>k
 | (l,n)::r,k=>req (n=len l) (reqs len r k)
theorem wq {R:Type} {len:Nat->Nat} {v:R}:∀{q:List (Nat×Nat)} {k:Option R},reqs len q k=some v->(∀p∈q,p.2=len p.1)/\k=some v
 | [],k,h=>⟨by simp,h⟩
 | (l,n)::r,k,h=>by
  obtain ⟨h1,h2⟩:=dK h
  obtain ⟨h3,h4⟩:=wq h2
  exact ⟨fun p hp=>by rcases List.mem_cons.1 hp with rfl | hp;exact h1;exact h3 p hp,h4⟩
def frOf {α:Type}:List (Nat×α)->Nat
 | []=>0
 | (l,_)::r=>max (l+1) (frOf r)
theorem wz {α:Type}:∀{L:List (Nat×α)} {l:Nat},frOf L<=l->lget L l=none
 | [],_,_=>rfl
 | (k,x)::r,l,h=>by
  simp only [frOf] at h
  rw [lget,if_neg (by omega)]
  exact wz (by omega)
def AZ (tm:Tm) (b s:St):Bool:=
 s.ds.all (fun t=>(tm.slots.map (·.1)).elem t||tm.kill.elem t) &&
 s.dl.all (fun p=>(tm.labs.map (·.1)).elem p.1||tm.killL.elem p.1 || !(b.L.map (·.1)).elem p.1||match p.2 with
  | some i=>(match lget b.L p.1 with | some (.cs _)=>true | _=>false)&&tm.cups.any fun c=>decide (c.1=p.1)&&decide (c.2.1=i)
  | none=>false)
def idOK (m:List (Nat×Nat)) (L:DLb) (l:Nat):Bool:=decide (lk m l=l)&&(L.map (·.1)).elem l
def vK:DC->Bool
 | .gone=>true
 | _=>false
def rO:List (Nat×Nat)->Bool
 | []=>true
 | (l,_)::r=>!(r.map (·.1)).elem l&&rO r
def uT (fr:Nat) (L:DLb) (cups:List (Nat×Nat×Sh)) (g:GS):GS:=match getC fr L cups g with
 | some g'=>{ g with m:=g'.m }
 | none=>g
def Tm.leaf (tm:Tm) (ks:List Nat) (b s:St):Option tm.T:=
 match getS (frOf s.L) s.al tm.slots ⟨[],[],[]⟩ with
 | some g=>match getL (frOf s.L) s.L tm.labs (uT (frOf s.L) s.L tm.cups g) with
  | some g=>match getC (frOf s.L) s.L tm.cups g with
   | some g=>
    let s':=tm.appL g.vs b
    if AZ tm b s=true/\(ded (tm.slots.map (·.1)++tm.kill) b.al).all (fun p=>p.2.labs (idOK g.m s'.L))=true /\
      (ded (tm.labs.map (·.1)) b.L).all (fun p=>idOK g.m s'.L p.1&&DX (idOK g.m s'.L) p.2)=true/\tm.cups.all (fun c=>idOK g.m s'.L c.1 && !tm.killL.elem c.1 && !(tm.labs.map (·.1)).elem c.1)=true /\
      (g.m.all fun p=>(s'.L.map (·.1)).elem p.1)=true/\ks.all (fun l=>idOK g.m s'.L l)=true /\
      (s'.L.all fun p=>s'.L.all fun q=>vK p.2||vK q.2||decide (lk g.m p.1=lk g.m q.1->p.1=q.1))=true/\rO g.m=true then
     reqs (lenF (lenT tm.labs (g.vs.drop (nS tm.slots))) b.L) g.q (pack tm.hs g.vs) else none
   | none=>none
  | none=>none
 | none=>none
end Go.SH
namespace Go.SH
theorem Fe {τ:Nat->Nat} {S:Nat->Bool} {t:ET}:∀{f:Nat} {cs:List DV} {l:List t.T},t.all f cs=some l->RenC τ S (DV.pvs cs) (fl (el t) l)
 | _,[],l,h=>by simp [ET.all] at h;subst h;exact .nil
 | 0,_::_,l,h=>by simp [ET.all] at h
 | f+1,c::cs,l,h=>by
  simp only [ET.all] at h
  split at h
  ·rename_i x r hx
   split at h
   ·rename_i l' hl
    simp at h;subst h
    obtain ⟨ds,e1,e2⟩:=Ag t hx
    rw [e1,eE,eZ]
    exact e2.append (Fe hl)
   ·simp at h
  ·simp at h
structure Fin (τ:Nat->Nat) (S:Nat->Bool) (len:Nat->Nat) (g:GS):Prop where
 m:yv τ S g
 q:∀p∈g.q,p.2=len p.1
theorem Fin.sub {τ:Nat->Nat} {S:Nat->Bool} {len:Nat->Nat} {g g':GS} (h:Fin τ S len g') (hs:g.Sub g'):Fin τ S len g:=⟨fun p hp=>h.m p (hs.1 p hp),fun p hp=>h.q p (hs.2 p hp)⟩
theorem E0 {fr:Nat} {al:DAl}:∀{sl:List (Nat×Sh)} {g g':GS},getS fr al sl g=some g'->g.Sub g'/\∃xs,g'.vs=g.vs++xs/\xs.length=nS sl/\∀{len:Nat->Nat} (rest:List TV) {τ:Nat->Nat} {S:Nat->Bool},Fin τ S len g' ->
  (mkS len sl (xs++rest)).2=rest/\∀p∈(mkS len sl (xs++rest)).1,∃d,lget al p.1=some d/\Ren τ S d.pv p.2.pv/\p.2.ok
 | [],g,g',h=>by simp [getS] at h;subst h;exact ⟨.refl _,[],by simp,rfl,fun rest _ _ _=>⟨rfl,by simp [mkS]⟩⟩
 | (t,s)::r,g,g',h=>by
  simp only [getS] at h
  split at h
  ·rename_i d hd
   split at h
   ·rename_i g1 h1
    obtain ⟨a1,xs,a2,a3,a4⟩:=va fr s h1
    obtain ⟨b1,ys,b2,b3,b4⟩:=E0 h
    refine ⟨a1.trans b1,xs++ys,by rw [b2,a2,List.append_assoc],by simp [nS,a3,b3],fun {len} rest {τ S} hf=>?_⟩
    obtain ⟨c1,c2,c3⟩:=a4 len (ys++rest) τ S (hf.sub b1).m (hf.sub b1).q
    obtain ⟨d1,d2⟩:=b4 rest hf
    simp only [Sh.mk'] at c1 c2 c3
    simp only [mkS,List.append_assoc,c1]
    refine ⟨d1,fun p hp=>?_⟩
    rcases List.mem_cons.1 hp with rfl | hp
    ·exact ⟨d,hd,c2,c3⟩
    ·exact d2 p hp
   ·simp at h
  ·simp at h
theorem Cp (len:Nat->Nat):∀(sl:List (Nat×Sh)) (vs:List TV),(mkS len sl vs).1.map (·.1)=sl.map (·.1)
 | [],_=>rfl
 | (t,s)::r,vs=>by simp only [mkS,List.map_cons];rw [Cp len r]
def LabR (τ:Nat->Nat) (S:Nat->Bool) (L:DLb) (l:Nat) (c:DC):Prop:=
 c.ok/\∃ys,c.pv=some ys/\((∃xs,lget (dlb L) (τ l)=some (some xs)/\RenC τ S xs ys)\/(lget (dlb L) (τ l)=none/\ys=[]))
theorem AF {L:DLb} {l:Nat} {c:DC} (h:lget L l=some c):lget (dlb L) l=some c.pv:=by rw [aB,h];rfl
theorem Ig {fr:Nat} {L:DLb}:∀{s:LSh} {l:Nat} {g g':GS},s.get fr (lget L l) g=some g'->g.Sub g'/\∃xs,g'.vs=g.vs++xs/\xs.length=s.n/\∀{len:Nat->Nat} (rest:List TV) {τ:Nat->Nat} {S:Nat->Bool} {k:Nat},Fin τ S len g'->τ k=l ->
  (s.mk len (xs++rest)).2=rest/\LabR τ S L k (s.mk len (xs++rest)).1
 | .ls t,l,g,g',h=>by
  simp only [LSh.get] at h
  split at h
  ·rename_i t' ls hl
   split at h
   ·rename_i e;subst e
    simp at h;subst h
    refine ⟨⟨fun _ h=>h,fun _ h=>h⟩,[⟨.tl t',ls⟩],rfl,rfl,fun {len} rest {τ S k} hf hk=>⟨rfl,trivial,_,rfl,.inl ⟨_,by rw [hk];exact AF hl,.pure (fG _)⟩⟩⟩
   ·simp at h
  ·rename_i cs hl
   split at h
   ·rename_i ls hal
    simp at h;subst h
    refine ⟨⟨fun _ h=>h,fun _ h=>h⟩,[⟨.tl t,ls⟩],rfl,rfl,fun {len} rest {τ S k} hf hk=>⟨rfl,trivial,_,rfl,.inl ⟨_,by rw [hk];exact AF hl,Fe hal⟩⟩⟩
   ·simp at h
  ·simp at h
  ·rename_i hl
   simp at h;subst h
   refine ⟨⟨fun _ h=>h,fun _ h=>h⟩,[⟨.tl t,[]⟩],rfl,rfl,fun {len} rest {τ S k} hf hk=>⟨rfl,trivial,_,rfl,.inr ⟨by rw [hk,aB,hl];rfl,rfl⟩⟩⟩
 | .cs ss,l,g,g',h=>by
  simp only [LSh.get] at h
  split at h
  ·rename_i ds hl
   obtain ⟨a1,xs,a2,a3,a4⟩:=mg fr ss h
   refine ⟨a1,xs,a2,a3,fun {len} rest {τ S k} hf hk=>?_⟩
   obtain ⟨c1,c2,c3⟩:=a4 len rest τ S hf.m hf.q
   exact ⟨c1,c3,_,rfl,.inl ⟨_,by rw [hk];exact AF hl,c2⟩⟩
  ·simp at h
theorem wy {fr:Nat} {L:DLb}:∀{sl:List (Nat×LSh)} {g g':GS},getL fr L sl g=some g'->g.Sub g'/\∃xs,g'.vs=g.vs++xs/\∀{len:Nat->Nat} (rest:List TV) {τ:Nat->Nat} {S:Nat->Bool},Fin τ S len g' ->
  (mkL len sl (xs++rest)).2=rest/\∀p∈(mkL len sl (xs++rest)).1,LabR τ S L p.1 p.2
 | [],g,g',h=>by simp [getL] at h;subst h;exact ⟨.refl _,[],by simp,fun rest _ _ _=>⟨rfl,by simp [mkL]⟩⟩
 | (l,s)::r,g,g',h=>by
  simp only [getL] at h
  split at h
  ·rename_i g0 h0
   split at h
   ·rename_i g1 h1
    obtain ⟨l1,l2,l3,l4⟩:=oO h0
    obtain ⟨a1,xs,a2,a3,a4⟩:=Ig h1
    obtain ⟨b1,ys,b2,b4⟩:=wy h
    refine ⟨⟨fun p hp=>b1.1 p (a1.1 p (l3 p hp)),fun p hp=>b1.2 p (a1.2 p (l2▸hp))⟩,xs++ys,by rw [b2,a2,l1,List.append_assoc],fun {len} rest {τ S} hf=>?_⟩
    have hf1:=hf.sub b1
    have hf0:=hf1.sub a1
    obtain ⟨c1,c2⟩:=a4 (ys++rest) hf1 (hf0.m _ l4).1
    obtain ⟨d1,d2⟩:=b4 rest hf
    simp only [mkL,List.append_assoc,c1]
    refine ⟨d1,fun p hp=>?_⟩
    rcases List.mem_cons.1 hp with rfl | hp
    ·simp only
     have e1:=(hf0.m _ l4).1
     simp only at e1
     obtain ⟨k1,ys',k2,k3⟩:=c2
     exact ⟨k1,ys',k2,k3⟩
    ·exact d2 p hp
   ·simp at h
  ·simp at h
theorem jT (len:Nat->Nat):∀(sl:List (Nat×LSh)) (vs:List TV),(mkL len sl vs).1.map (·.1)=sl.map (·.1)
 | [],_=>rfl
 | (t,s)::r,vs=>by simp only [mkL,List.map_cons];rw [jT len r]
theorem AQ {fr:Nat} {L:DLb}:∀{sl:List (Nat×Nat×Sh)} {g g':GS},getC fr L sl g=some g'->g.Sub g'/\∃xs,g'.vs=g.vs++xs/\∀{len:Nat->Nat} (rest:List TV) {τ:Nat->Nat} {S:Nat->Bool},Fin τ S len g' ->
  (mkC len sl (xs++rest)).2=rest/\∀p∈(mkC len sl (xs++rest)).1,∃cs d,lget L p.1=some (.cs cs)/\cs[p.2.1]?=some d/\Ren τ S d.pv p.2.2.pv/\p.2.2.ok
 | [],g,g',h=>by simp [getC] at h;subst h;exact ⟨.refl _,[],by simp,fun rest _ _ _=>⟨rfl,by simp [mkC]⟩⟩
 | (l,i,s)::r,g,g',h=>by
  simp only [getC] at h
  split at h
  ·rename_i cs hl
   split at h
   ·rename_i d hd
    split at h
    ·rename_i g1 h1
     obtain ⟨a1,xs,a2,a3,a4⟩:=va fr s h1
     obtain ⟨b1,ys,b2,b4⟩:=AQ h
     refine ⟨a1.trans b1,xs++ys,by rw [b2,a2,List.append_assoc],fun {len} rest {τ S} hf=>?_⟩
     obtain ⟨c1,c2,c3⟩:=a4 len (ys++rest) τ S (hf.sub b1).m (hf.sub b1).q
     obtain ⟨d1,d2⟩:=b4 rest hf
     simp only [Sh.mk'] at c1 c2 c3
     simp only [mkC,List.append_assoc,c1]
     refine ⟨d1,fun p hp=>?_⟩
     rcases List.mem_cons.1 hp with rfl | hp
     ·exact ⟨cs,d,hl,hd,c2,c3⟩
     ·exact d2 p hp
    ·simp at h
   ·simp at h
  ·simp at h
theorem pM (len:Nat->Nat):∀(sl:List (Nat×Nat×Sh)) (vs:List TV),(mkC len sl vs).1.map (fun c=>(c.1,c.2.1))=sl.map (fun c=>(c.1,c.2.1))
 | [],_=>rfl
 | (t,i,s)::r,vs=>by simp only [mkC,List.map_cons];rw [pM len r]
theorem oT (cu:List (Nat×Nat×DV)) (l i:Nat) (d:DV):(cupD cu l i d=d/\∀c∈cu,¬(c.1=l/\c.2.1=i))\/∃c∈cu,c.1=l/\c.2.1=i/\cupD cu l i d=c.2.2:=by
 induction cu with
 | nil=>exact .inl ⟨rfl,by simp⟩
 | cons c r ih=>
  obtain ⟨l',i',e⟩:=c
  simp only [cupD]
  split
  ·rename_i h;exact .inr ⟨(l',i',e),by simp,h.1,h.2,rfl⟩
  ·rename_i h
   rcases ih with ⟨h1,h2⟩ | ⟨c,h1,h2⟩
   ·refine .inl ⟨h1,fun c hc=>?_⟩
    rcases List.mem_cons.1 hc with rfl | hc
    ·exact h
    ·exact h2 c hc
   ·exact .inr ⟨c,List.mem_cons_of_mem _ h1,h2⟩
theorem la (cu:List (Nat×Nat×DV)) (l:Nat):∀(ds:List DV) (j i:Nat),(cupM cu l j ds)[i]?=(ds[i]?).map (cupD cu l (j+i))
 | [],_,_=>by simp [cupM]
 | d::r,j,i=>by
  cases i with
  | zero=>simp [cupM]
  | succ i=>simp only [cupM,List.getElem?_cons_succ];rw [la cu l r,show j+1+i=j+(i+1) from by omega]
theorem ub (cu:List (Nat×Nat×DV)) (l:Nat):∀(ds:List DV) (j:Nat),(cupM cu l j ds).length=ds.length
 | [],_=>rfl
 | d::r,j=>by simp [cupM,ub cu l r]
theorem qB {α:Type}:∀{l:List (Nat×α)} {s:List Nat} {t:Nat},t ∉ s->lget (ded s l) t=lget l t
 | [],_,_,_=>rfl
 | (u,d)::r,s,t,h=>by
  simp only [ded]
  split
  ·rename_i e
   have hu:u∈s:=by simpa using e
   rw [qB h,lget,if_neg (fun e2=>h (by rw [<-e2];exact hu))]
  ·by_cases e:u=t
   ·subst e;simp [lget]
   ·rw [lget,if_neg e,lget,if_neg e]
    exact qB (by simp;exact ⟨fun e2=>e e2.symm,h⟩)
theorem xM {α:Type} (a b:List (Nat×α)) (k:Nat) (h:k ∉ a.map (·.1)):lget (a++b) k=lget b k:=by
 induction a with
 | nil=>rfl
 | cons p r ih=>
  obtain ⟨j,x⟩:=p
  simp only [List.map_cons,List.mem_cons,not_or] at h
  show lget ((j,x)::(r++b)) k=_
  rw [lget,if_neg (fun e=>h.1 e.symm)]
  exact ih h.2
theorem nT {α:Type} {a b:List (Nat×α)} {k:Nat} {x:α} (h:lget (a++b) k=some x):(∃p∈a,p=(k,x))\/(k ∉ a.map (·.1)/\lget b k=some x):=by
 induction a with
 | nil=>exact .inr ⟨by simp,h⟩
 | cons p r ih=>
  obtain ⟨j,y⟩:=p
  have h':lget ((j,y)::(r++b)) k=some x:=h
  rw [lget] at h'
  split at h'
  ·rename_i e;subst e;simp at h';subst h';exact .inl ⟨_,by simp,rfl⟩
  ·rename_i e
   rcases ih h' with ⟨p,hp,e2⟩ | ⟨h1,h2⟩
   ·exact .inl ⟨p,List.mem_cons_of_mem _ hp,e2⟩
   ·exact .inr ⟨by simp;exact ⟨fun e2=>e e2.symm,by simpa using h1⟩,h2⟩
theorem uZ {α β:Type} (f:Nat->α->β):∀(l:List (Nat×α)) (k:Nat),lget (l.map fun p=>(p.1,f p.1 p.2)) k=(lget l k).map (f k)
 | [],_=>rfl
 | (j,x)::r,k=>by
  simp only [List.map_cons,lget]
  split
  ·rename_i e;subst e;rfl
  ·exact uZ f r k
theorem Jp (tm:Tm) (vs:List TV) (b:St):Up b (tm.appL vs b):=by
 intro b0 h
 refine ⟨fun t ht=>?_,fun l hl=>?_,fun l cs0 hl h0=>?_⟩
 ·simp only [Tm.appL,List.mem_append,not_or] at ht ⊢
  obtain ⟨⟨h1,h2⟩,h3⟩:=ht
  rw [xM _ _ _ (by rw [Cp];exact h1),qB (by simp only [List.mem_append,not_or];exact ⟨h1,h2⟩)]
  exact h.sl t h3
 ·simp only [Tm.appL,List.mem_append,not_or] at hl ⊢
  have h1:l ∉ tm.labs.map (·.1):=fun hm=>by
   obtain ⟨p,hp,e⟩:=List.mem_map.1 hm
   exact (hl none).1.1.1 (List.mem_map.2 ⟨p,hp,by rw [e]⟩)
  have h2:l ∉ tm.killL:=fun hm=>(hl none).1.2 (List.mem_map.2 ⟨l,hm,rfl⟩)
  rw [xM _ _ _ (by rw [jT];exact h1),uZ,qB h1]
  have h4:=h.lb l fun i=>(hl i).2
  rw [<-h4]
  cases hc:lget b.L l with
  | none=>rfl
  | some c=>
   simp only [Option.map_some]
   congr 1
   have hk:tm.killL.elem l=false:=by simpa using h2
   cases c with
   | gone=>simp only [cupL,hk]
   | ls t x=>simp only [cupL,hk]
   | cs cs=>
    simp only [cupL,hk]
    congr 1
    refine List.ext_getElem? fun i=>?_
    rw [la]
    cases hi:cs[i]? with
    | none=>rfl
    | some d=>
     simp only [Option.map_some]
     rcases oT _ l (0+i) d with ⟨h5,_⟩ | ⟨c,h5,h6,h7,_⟩
     ·rw [h5]
     ·exfalso
      have:(c.1,c.2.1)∈tm.cups.map (fun c=>(c.1,c.2.1)):=by rw [<-pM];exact List.mem_map.2 ⟨c,h5,rfl⟩
      obtain ⟨c',h8,h9⟩:=List.mem_map.1 this
      simp at h9
      exact (hl (some i)).1.1.2 (List.mem_map.2 ⟨c',h8,by rw [h9.1,h9.2,h6,h7];simp⟩)
 ·simp only [Tm.appL,List.mem_append,not_or] at hl ⊢
  have h1:l ∉ tm.labs.map (·.1):=fun hm=>by
   obtain ⟨p,hp,e⟩:=List.mem_map.1 hm
   exact hl.1.1.1 (List.mem_map.2 ⟨p,hp,by rw [e]⟩)
  have h2:l ∉ tm.killL:=fun hm=>hl.1.2 (List.mem_map.2 ⟨l,hm,rfl⟩)
  have hk:tm.killL.elem l=false:=by simpa using h2
  obtain ⟨cs,c1,c2,c3⟩:=h.ce l cs0 hl.2 h0
  rw [xM _ _ _ (by rw [jT];exact h1),uZ,qB h1,c1]
  simp only [Option.map_some,cupL,hk]
  refine ⟨_,rfl,by rw [ub,c2],fun i hi=>?_⟩
  rw [la]
  cases hc:cs[i]? with
  | none=>rw [<-c3 i hi.2,hc];rfl
  | some d=>
   simp only [Option.map_some]
   rcases oT _ l (0+i) d with ⟨h5,_⟩ | ⟨c,h5,h6,h7,_⟩
   ·rw [h5,<-c3 i hi.2,hc]
   ·exfalso
    have:(c.1,c.2.1)∈tm.cups.map (fun c=>(c.1,c.2.1)):=by rw [<-pM];exact List.mem_map.2 ⟨c,h5,rfl⟩
    obtain ⟨c',h8,h9⟩:=List.mem_map.1 this
    simp at h9
    exact hi.1.1.2 (List.mem_map.2 ⟨c',h8,by rw [h9.1,h9.2,h6,h7];simp⟩)
theorem vp (tm:Tm) (v:tm.T) (b:St):Up b (tm.app v b):=Jp _ _ _
end Go.SH
namespace Go.SH
theorem uS:∀{m:List (Nat×Nat)},rO m=true->∀p∈m,lk m p.1=p.2
 | [],_,p,hp=>by simp at hp
 | (l,x)::r,h,p,hp=>by
  simp only [rO,Bool.and_eq_true,Bool.not_eq_true'] at h
  rcases List.mem_cons.1 hp with rfl | hp'
  ·simp [lk,lget]
  ·have h1:l≠p.1:=by
    intro e;rw [e] at h
    have:p.1∈r.map (·.1):=List.mem_map.2 ⟨p,hp',rfl⟩
    have h2:=h.1
    simp only [List.elem_eq_mem,decide_eq_false_iff_not] at h2
    exact h2 this
   have h2:=uS h.2 p hp'
   simp only [lk] at h2 ⊢
   rw [lget,if_neg h1];exact h2
theorem xQ {L:DLb} {l:Nat} (h:(L.map (·.1)).elem l=true):hasL (dlb L) l=true:=by
 simp only [List.elem_eq_mem,decide_eq_true_eq] at h
 obtain ⟨p,hp,rfl⟩:=List.mem_map.1 h
 simp only [hasL,Option.isSome_iff_ne_none]
 clear h
 induction L with
 | nil=>simp at hp
 | cons q r ih=>
  obtain ⟨j,x⟩:=q
  simp only [dlb,List.map_cons,lget]
  split
  ·simp
  ·rename_i hj
   rcases List.mem_cons.1 hp with rfl | hp
   ·exact absurd rfl hj
   ·exact ih hp
theorem wx {m:List (Nat×Nat)} {L:DLb} {l:Nat} (h:idOK m L l=true):lk m l=l/\hasL (dlb L) l=true:=by
 simp only [idOK,Bool.and_eq_true,decide_eq_true_eq] at h
 exact ⟨h.1,xQ h.2⟩
theorem RenA.of_all {τ:Nat->Nat} {S:Nat->Bool} {al:Al}:∀{al':Al},(∀p∈al',∃x,lget al p.1=some x/\Ren τ S x p.2)->RenA τ S al al'
 | [],_=>.nil
 | (t,y)::r,h=>by
  obtain ⟨x,h1,h2⟩:=h (t,y) (by simp)
  exact .cons h1 h2 (.of_all fun p hp=>h p (List.mem_cons_of_mem _ hp))
theorem RenB.of_all {τ:Nat->Nat} {S:Nat->Bool} {L:Lb}:∀{L':Lb},(∀p∈L',p.2=none\/∃ys,p.2=some ys/\((∃xs,lget L (τ p.1)=some (some xs)/\RenC τ S xs ys)\/(lget L (τ p.1)=none/\ys=[])))->RenB τ S L L'
 | [],_=>.nil
 | (l,y)::r,h=>by
  have hr:=RenB.of_all (L:=L) (τ:=τ) (S:=S) (L':=r) fun p hp=>h p (List.mem_cons_of_mem _ hp)
  rcases h (l,y) (by simp) with h1 | ⟨ys,h1,h2⟩
  ·simp only at h1;subst h1;exact .gone hr
  ·simp only at h1;subst h1
   rcases h2 with ⟨xs,h3,h4⟩ | ⟨h3,h4⟩
   ·exact .cons h3 h4 hr
   ·subst h4;exact .fresh h3 hr
theorem yc {l:List Nat} {x:Nat}:l.elem x=true<->x∈l:=by simp
theorem FU {f:Nat->Bool} {cs:List DV} (h:DX f (.cs cs)=true):DV.labsL f cs=true:=h
theorem zu {f:Nat->Bool}:∀{cs:List DV} {i:Nat} {d:DV},DV.labsL f cs=true->cs[i]?=some d->d.labs f=true
 | [],_,_,_,h=>by simp at h
 | c::r,i,d,h,hd=>by
  simp only [DV.labsL,Bool.and_eq_true] at h
  cases i with
  | zero=>simp at hd;subst hd;exact h.1
  | succ i=>exact zu h.2 (by simpa using hd)
theorem FH (fr:Nat) (L:DLb) (cups:List (Nat×Nat×Sh)) (g:GS):(uT fr L cups g).vs=g.vs:=by unfold uT;split <;> rfl
theorem DG (fr:Nat) (L:DLb) (cups:List (Nat×Nat×Sh)) (g:GS):g.Sub (uT fr L cups g):=by
 unfold uT
 split
 ·rename_i g' h;exact ⟨(AQ h).1.1,fun _ h=>h⟩
 ·exact .refl _
theorem mE {E:Env} {K:Nat->Prop} {tm:Tm} {ks:List Nat} {b s:St} {v:tm.T} (h:tm.leaf ks b s=some v) (he:Ext b s) (hs:s.ok) (hb:b.ok) (hK:∀l,K l->l∈ks) (hG:GOK E) :
  Weak E K (dal s.al) (dlb s.L) (dal (tm.app v b).al) (dlb (tm.app v b).L)/\(tm.app v b).ok:=by
 unfold Tm.leaf at h
 split at h
 ·rename_i g1 h1
  split at h
  ·rename_i g2 h2
   split at h
   ·rename_i g3 h3
    simp only at h
    split at h
    ·rename_i hc
     obtain ⟨c1,c2,c3,c4,c5,c6,c7,c8⟩:=hc
     obtain ⟨hq,hp⟩:=wq h
     have hap:tm.app v b=tm.appL g3.vs b:=by unfold Tm.app;rw [sX hp]
     rw [hap]
     obtain ⟨a1,xs,a2,a3,a4⟩:=E0 h1
     obtain ⟨b1,ys,b2,b4⟩:=wy h2
     obtain ⟨d1,zs,d2,d4⟩:=AQ h3
     have hvs:g3.vs=xs++(ys++(zs++[])):=by rw [d2,b2,FH,a2];simp
     generalize hS:tm.appL g3.vs b=s' at *
     have hF:Fin (lk g3.m) (hasL (dlb s'.L)) (lenF (lenT tm.labs (g3.vs.drop (nS tm.slots))) b.L) g3:=⟨fun p hp=>⟨uS c8 p hp,xQ (List.all_eq_true.1 c5 p hp)⟩,hq⟩
     obtain ⟨e1,e2⟩:=a4 (ys++(zs++[])) (hF.sub ((DG _ _ _ _).trans (b1.trans d1)))
     obtain ⟨f1,f2⟩:=b4 (zs++[]) (hF.sub d1)
     obtain ⟨i1,i2⟩:=d4 [] hF
     rw [<-hvs] at e1 e2
     have hal:s'.al=(mkS (lenF (lenT tm.labs (g3.vs.drop (nS tm.slots))) b.L) tm.slots g3.vs).1++ded (tm.slots.map (·.1)++tm.kill) b.al:=by rw [<-hS];rfl
     have hL:s'.L=(mkL (lenF (lenT tm.labs (g3.vs.drop (nS tm.slots))) b.L) tm.labs (ys++(zs++[]))).1++(ded (tm.labs.map (·.1)) b.L).map fun p=>(p.1,cupL (mkC (lenF (lenT tm.labs (g3.vs.drop (nS tm.slots))) b.L) tm.cups (zs++[])).1 tm.killL p.1 p.2):=by
      rw [<-hS];simp only [Tm.appL];rw [e1,f1]
     generalize lenF (lenT tm.labs (g3.vs.drop (nS tm.slots))) b.L=len at *
     generalize hcu:(mkC len tm.cups (zs++[])).1=cu at *
     have hcuk:∀l i,(∃c∈cu,c.1=l/\c.2.1=i)<->∃c∈tm.cups,c.1=l/\c.2.1=i:=by
      intro l i
      have hk:=pM len tm.cups (zs++[])
      rw [hcu] at hk
      constructor
      ·rintro ⟨c,hc,rfl,rfl⟩
       have:(c.1,c.2.1)∈tm.cups.map (fun c=>(c.1,c.2.1)):=by rw [<-hk];exact List.mem_map.2 ⟨c,hc,rfl⟩
       obtain ⟨c',h1,h2⟩:=List.mem_map.1 this
       simp at h2;exact ⟨c',h1,h2⟩
      ·rintro ⟨c,hc,rfl,rfl⟩
       have:(c.1,c.2.1)∈cu.map (fun c=>(c.1,c.2.1)):=by rw [hk];exact List.mem_map.2 ⟨c,hc,rfl⟩
       obtain ⟨c',h1,h2⟩:=List.mem_map.1 this
       simp at h2;exact ⟨c',h1,h2⟩
     simp only [AZ,Bool.and_eq_true,List.all_eq_true] at c1
     rw [List.all_eq_true] at c2 c3 c4 c6 c7
     have hA:RenA (lk g3.m) (hasL (dlb s'.L)) (dal s.al) (dal s'.al):=by
      refine RenA.of_all fun p hp=>?_
      obtain ⟨⟨t,d'⟩,hp1,rfl⟩:=List.mem_map.1 hp
      rw [hal] at hp1
      clear hp
      rcases List.mem_append.1 hp1 with hp | hp
      ·obtain ⟨d,k1,k2,_⟩:=e2 _ hp
       exact ⟨d.pv,by rw [bI,k1];rfl,k2⟩
      ·obtain ⟨k1,k2⟩:=kJ hp
       refine ⟨d'.pv,?_,tP (fun l hl=>wx hl) (c2 _ hp)⟩
       have:t ∉ s.ds:=fun hd=>by
        have:=c1.1 t hd
        simp only [Bool.or_eq_true,yc] at this
        simp only [List.mem_append,not_or] at k1
        exact this.elim k1.1 k1.2
       rw [bI,he.sl t this,k2];rfl
     have hB:RenB (lk g3.m) (hasL (dlb s'.L)) (dlb s.L) (dlb s'.L):=by
      refine RenB.of_all fun p hp=>?_
      obtain ⟨⟨l,c⟩,hp1,rfl⟩:=List.mem_map.1 hp
      rw [hL] at hp1
      clear hp
      rcases List.mem_append.1 hp1 with hp | hp
      ·obtain ⟨_,ys',k2,k3⟩:=f2 _ hp
       exact .inr ⟨ys',k2,k3⟩
      ·obtain ⟨⟨l',c0⟩,hp2,e⟩:=List.mem_map.1 hp
       simp only [Prod.mk.injEq] at e;obtain ⟨rfl,rfl⟩:=e
       obtain ⟨k1,k2⟩:=kJ hp2
       have hid:=c3 _ hp2
       simp only [Bool.and_eq_true] at hid
       obtain ⟨hid1,hid2⟩:=hid
       obtain ⟨hid3,hid4⟩:=wx hid1
       have hkey:l'∈b.L.map (·.1):=List.mem_map.2 ⟨_,aw k2,rfl⟩
       have hdirty:∀oi,(l',oi)∈s.dl->tm.killL.elem l'=false->∃i,oi=some i/\(∃cs,lget b.L l'=some (.cs cs))/\∃c∈tm.cups,c.1=l'/\c.2.1=i:=by
        intro oi ho hk
        have:=c1.2 _ ho
        simp only [Bool.or_eq_true,yc,Bool.not_eq_true',hk] at this
        rcases this with ((h5 | h5) | h5) | h5
        ·exact absurd h5 k1
        ·exact absurd h5 (by simp)
        ·have h6:(b.L.map (·.1)).elem l'=true:=yc.2 hkey
         rw [h6] at h5;simp at h5
        ·cases oi with
         | none=>simp at h5
         | some i=>
          simp only [Bool.and_eq_true,List.any_eq_true,decide_eq_true_eq] at h5
          refine ⟨i,rfl,?_,h5.2⟩
          have h6:=h5.1
          split at h6
          ·rename_i cs hcs;exact ⟨cs,hcs⟩
          ·simp at h6
       show _\/_
       simp only at k2 hid2 hid3 ⊢
       cases hk:tm.killL.elem l' with
       | true=>
        left
        cases c0 with
        | gone=>simp only [cupL,hk];rfl
        | ls t x=>simp only [cupL,hk];rfl
        | cs cs=>simp only [cupL,hk];rfl
       | false=>
        cases c0 with
        | gone=>left;simp only [cupL,hk];rfl
        | ls t x=>
         right
         refine ⟨fl (el t) x,by simp only [cupL,hk];rfl,.inl ⟨fl (el t) x,?_,.pure (fG _)⟩⟩
         rw [hid3,aB,he.lb l' (fun i hi=>by
          obtain ⟨_,_,⟨cs,h5⟩,_⟩:=hdirty i hi hk
          rw [k2] at h5;simp at h5),k2];rfl
        | cs cs0=>
         right
         obtain ⟨cs,j1,j2,j3⟩:=he.ce l' cs0 (fun hn=>by obtain ⟨_,h5,_⟩:=hdirty none hn hk;simp at h5) k2
         refine ⟨DV.pvs (cupM cu l' 0 cs0),by simp only [cupL,hk];rfl,.inl ⟨DV.pvs cs,by rw [hid3,aB,j1];rfl,RenC.of_get (by rw [aV,aV,ub,j2]) fun i x y hx hy=>?_⟩⟩
         rw [sT] at hx hy
         rw [la] at hy
         cases hc0:cs0[i]? with
         | none=>rw [hc0] at hy;simp at hy
         | some d0=>
          rw [hc0] at hy
          simp only [Option.map_some,Option.some.injEq,Nat.zero_add] at hy
          rcases oT cu l' i d0 with ⟨h5,h6⟩ | ⟨c,h5,h6,h7,h8⟩
          ·rw [h5] at hy;subst hy
           have:(l',some i) ∉ s.dl:=fun hn=>by
            obtain ⟨i',h9,_,h10⟩:=hdirty (some i) hn hk
            simp at h9;subst h9
            obtain ⟨c,h11,h12⟩:=(hcuk l' i).2 h10
            exact h6 c h11 h12
           rw [j3 i this,hc0] at hx
           simp at hx;subst hx
           exact tP (fun l hl=>wx hl) (zu (FU hid2) hc0)
          ·obtain ⟨cs',d,h9,h10,h11,_⟩:=i2 c h5
           rw [h6,j1] at h9;simp at h9;subst h9
           rw [h7] at h10;rw [h10] at hx
           simp at hx;subst hx
           rw [h8] at hy;subst hy
           exact h11
     refine ⟨Weak.ren g3.m ks hA hB ?_ hK hG,?_,?_⟩
     ·simp only [GR,Bool.and_eq_true,List.all_eq_true,decide_eq_true_eq]
      refine ⟨fun p hp q hq=>?_,fun l hl=>?_⟩
      ·obtain ⟨p',hp1,rfl⟩:=List.mem_map.1 hp
       obtain ⟨q',hq1,rfl⟩:=List.mem_map.1 hq
       have:=c7 _ hp1
       rw [List.all_eq_true] at this
       have:=this _ hq1
       simp only [Bool.or_eq_true,decide_eq_true_eq] at this
       simp only [Bool.or_eq_true,decide_eq_true_eq,Bool.not_eq_true']
       rcases this with (h5 | h5) | h5
       ·left;left
        cases hc:p'.2 with
        | gone=>rfl
        | cs x=>rw [hc] at h5;simp [vK] at h5
        | ls x y=>rw [hc] at h5;simp [vK] at h5
       ·left;right
        cases hc:q'.2 with
        | gone=>rfl
        | cs x=>rw [hc] at h5;simp [vK] at h5
        | ls x y=>rw [hc] at h5;simp [vK] at h5
       ·exact .inr h5
      ·obtain ⟨h5,h6⟩:=wx (c6 l hl)
       exact ⟨h5,h6⟩
     ·intro t x hx
      rw [hal] at hx
      rcases nT hx with ⟨p,hp,rfl⟩ | ⟨_,hx⟩
      ·obtain ⟨_,_,_,k3⟩:=e2 _ hp;exact k3
      ·obtain ⟨_,k2⟩:=kJ (aw hx)
       exact hb.1 _ _ k2
     ·intro l c hl
      rw [hL] at hl
      rcases nT hl with ⟨p,hp,rfl⟩ | ⟨_,hl⟩
      ·exact (f2 _ hp).1
      ·have hm:=aw hl
       obtain ⟨⟨l',c0⟩,hp2,e⟩:=List.mem_map.1 hm
       simp only [Prod.mk.injEq] at e;obtain ⟨rfl,rfl⟩:=e
       obtain ⟨_,k2⟩:=kJ hp2
       have hok:=hb.2 _ _ k2
       cases c0 with
       | gone=>simp only [cupL];split <;> trivial
       | ls t x=>simp only [cupL];split <;> trivial
       | cs cs0=>
        simp only [cupL]
        split
        ·trivial
        ·refine fQ.2 fun x hx=>?_
         obtain ⟨i,hi⟩:=List.getElem?_of_mem hx
         rw [la] at hi
         cases hc0:cs0[i]? with
         | none=>rw [hc0] at hi;simp at hi
         | some d0=>
          rw [hc0] at hi
          simp only [Option.map_some,Option.some.injEq,Nat.zero_add] at hi
          subst hi
          rcases oT cu l' i d0 with ⟨h5,_⟩ | ⟨c,h5,_,_,h8⟩
          ·rw [h5];exact ql hok hc0
          ·obtain ⟨_,_,_,_,_,h12⟩:=i2 c h5
           rw [h8];exact h12
    ·simp at h
   ·simp at h
  ·simp at h
 ·simp at h
end Go.SH
namespace Go.SH
inductive Tr where
 | nil
 | node (v:Option (List PV)) (l r:Tr)
def tget:Tr->Nat->Option (List PV)
 | .nil,_=>none
 | .node v l r,k=>bif k.beq 0 then v else bif (k % 2).beq 1 then tget l (k / 2) else tget r (k / 2-1)
def tset:Nat->Tr->Nat->Option (List PV)->Tr
 | 0,t,_,_=>t
 | f+1,.nil,k,y=>bif k.beq 0 then .node y .nil .nil else bif (k % 2).beq 1 then .node none (tset f .nil (k / 2) y) .nil else .node none .nil (tset f .nil (k / 2-1) y)
 | f+1,.node v l r,k,y=>bif k.beq 0 then .node y l r else bif (k % 2).beq 1 then .node v (tset f l (k / 2) y) r else .node v l (tset f r (k / 2-1) y)
theorem Jn (a b:Nat):a.beq b=decide (a=b):=by
 rw [Bool.eq_iff_iff];simp [Nat.beq_eq]
def maxL:Nat:=1048574
def tput (m:Tr) (l:Nat) (y:Option (List PV)):Tr:=tset 20 m l y
def tupd:Tr->Lb->Tr
 | m,[]=>m
 | m,(l,y)::r=>tupd (tput m l y) r
def xbnd (G:List (Nat×List PV)) (al:Al) (o:Option Operand) (dflt:Nat):Option Nat:=
 match o with
 | none=>some dflt
 | some x=>match xev G al x with
  | some (.int _ (.ofNat n))=>some n
  | _=>none
def xslc (L:Lb) (sz:Nat):PV->Option (List PV×Nat)
 | .nils=>some ([],0)
 | .ro cs n _=>if cs.length=n*sz then some (cs,n) else none
 | .rw l off n s _=>if s=sz then (match lget L l with
  | some (some cs)=>if off+n*sz<=cs.length then some ((cs.drop off).take (n*sz),n) else none
  | _=>none) else none
 | _=>none
def xsrc (P:Program) (L:Lb) (sz:Nat) (tx:TypeId) (p:PV):Option (List PV×Nat):=
 match P.underlying tx with
 | some (.slice _)=>match xslc L sz p with
  | some (cs,k)=>if cs.all PV.one=true then some (cs,k) else none
  | none=>none
 | some .string=>match p with
  | .str s=>if sz=1 then some (s.map fun b=>.int .u8 b.toNat,s.length) else none
  | _=>none
 | _=>none
def Fc:List PV->Option (List UInt8)
 | []=>some []
 | .int .u8 (.ofNat n)::r=>if n<256 then (match Fc r with | some s=>some (UInt8.ofNat n::s) | none=>none) else none
 | _=>none
def Fb:List PV->Option (List Int)
 | []=>some []
 | .int .i32 n::r=>match Fb r with | some s=>some (n::s) | none=>none
 | _=>none
def lj (ns:List Int):List UInt8:=ns.flatMap fun n=>(Utf8.encode n).data.toList
theorem Fx (ns:List Int):runesBytes ns=⟨⟨lj ns⟩⟩:=by
 have key:∀(ns:List Int) (acc:ByteArray),ns.foldl (fun r n=>r++Utf8.encode n) acc=⟨⟨acc.data.toList++lj ns⟩⟩:=by
  intro ns
  induction ns with
  | nil=>intro acc;simp [lj]
  | cons n ns ih=>
   intro acc
   simp only [List.foldl_cons]
   rw [ih]
   simp [lj]
 unfold runesBytes
 rw [key]
 rfl
section
variable {E:Env} {d:Option Tmp} {ty:TypeId} {pos:String} {after:Array Edge} {g:Option (Nat×Bool)} {ra:Al} {rl:Lb}
theorem Bz {s t e:TypeId} {x:Operand} {p:PV} {ns:List Int} (hx:xev E.G ra x=some p) (hs:E.P.underlying s=some (.slice e)) (he:E.P.underlying e=some (.int .i32)) (ht:E.P.underlying t=some .string)
  (hc:SlC rl 1 p (ns.map (PV.int .i32)) ns.length):AOp E ⟨d,.convert s t x,ty,pos,after,g⟩ ra rl (.str (lj ns)) []:=by
 refine bW fun A w σ al L a r h1 h2=>⟨.string ⟨⟨lj ns⟩⟩,?_,.str _⟩
 have hv:=aX r h1 hx
 have hc':=w4 h2 hc
 obtain ⟨us,u1,u2,u3⟩:=tV (P:=E.P) r.blocks hv hc'
 obtain ⟨ad,cap,hex,_,_⟩:=rx r.blocks hv hc'
 have hus:us=ns.map (Value.int .i32):=by
  apply List.ext_getElem?
  intro i
  by_cases hi:i<ns.length
  ·obtain ⟨u,h5,h6⟩:=u2 i (.int .i32 ns[i]) (by simp [hi])
   rw [h5]
   cases h6
   simp [hi]
  ·rw [List.getElem?_eq_none (by omega),List.getElem?_eq_none (by simp;omega)]
 have h3:=u3 w rfl
 rw [hex] at h3
 have hconv:(convert s t (a.eval x)).run E.P w = .ok (.string ⟨⟨lj ns⟩⟩) w:=by
  rw [hex,run_convert_runes_string w s t e ad _ cap hs he ht]
  cases ad with
  | none=>
   simp [Builtin.firstCells] at h3
   subst h3
   have:ns=[]:=List.eq_nil_of_length_eq_zero (by simpa using u1.symm)
   subst this
   simp [Conv.runesToString,lj]
   rfl
  | some ad=>
   simp only [Builtin.firstCells,Nat.mul_one] at h3
   rw [hus] at h3
   rw [run_runesToString w ad ns.length cap _ h3,Fx]
 simp [execOp,hconv]
end
def posS:PV->Bool
 | .rw _ _ n _ _=>Nat.blt 0 n
 | .ro _ n _=>Nat.blt 0 n
 | _=>false
def isSl:Option TypeDesc->Bool
 | some (.slice _)=>true
 | _=>false
section
variable {E:Env} {d:Option Tmp} {ty:TypeId} {pos:String} {after:Array Edge} {g:Option (Nat×Bool)} {ra:Al} {rl:Lb}
end
def roOK (sz:Nat):PV->Bool
 | .ro cs m _=>decide (cs.length=m*sz)
 | _=>true
def xop2 (P:Program) (G:List (Nat×List PV)) (o:Oper) (al:Al) (L:Lb) (lab:Nat):Option (PV×Lb):=
 match o.op with
 | .slice T x lo hi none=>match xev G al x,P.underlying T with
  | some (.str s),some .string=>match xbnd G al lo 0,xbnd G al hi s.length with
   | some l,some h=>if l<=h/\h<=s.length then some (.str ((s.drop l).take (h-l)),[]) else none
   | _,_=>none
  | some (.ptr lb 0),some (.array n t)=>match lget L lb,P.info? t with
   | some (some cells),some ie=>match xbnd G al lo 0,xbnd G al hi n with
    | some l,some h=>if cells.length=n*ie.size/\0<n*ie.size/\l<=h/\h<=n then some (.rw lb (l*ie.size) (h-l) ie.size none,[]) else none
    | _,_=>none
   | _,_=>none
  | some p,some (.slice e)=>match P.info? e,xlen p with
   | some ie,some n=>match xbnd G al lo 0,xbnd G al hi n with
    | some l,some h=>if l<=h/\h<=n/\0<ie.size/\roOK ie.size p=true then (wI ie.size l h p).map fun q=>(q,[]) else none
    | _,_=>none
   | _,_=>none
  | _,_=>none
 | .call ⟨.builtin .append,⟨[x,y]⟩,⟨[T,tx]⟩⟩=>match xev G al x,xev G al y,P.underlying T with
  | some p,some q,some (.slice e)=>match P.info? e,iD P e with
   | some ie,some z=>if z.length=ie.size/\0<ie.size then (match xsrc P L ie.size tx q with
    | some (news,k)=>match p with
     | .nils=>if k*ie.bytes<=140737488355328/\k<=9223372036854775807 then some (.rw lab 0 k ie.size none,[(lab,some news)]) else none
     | .rw l off n s _=>match lget L l with
      | some (some cells)=>if s=ie.size/\off+n*ie.size<=cells.length/\(n+k)*ie.bytes<=140737488355328/\n+k<=9223372036854775807 then
        some (.rw lab 0 (n+k) ie.size none,[(l,none),(lab,some ((cells.drop off).take (n*ie.size)++news))]) else none
      | _=>none
     | _=>none
    | none=>none) else none
   | _,_=>none
  | _,_,_=>none
 | .call ⟨.builtin .copy,⟨[x,y]⟩,⟨[T,tx]⟩⟩=>match xev G al x,xev G al y,P.underlying T with
  | some (.rw l off n s _),some q,some (.slice e)=>match P.info? e,lget L l with
   | some ie,some (some cells)=>if s=ie.size/\off+n*ie.size<=cells.length then (match xslc L ie.size q with
    | some (cont,k)=>if cont.all PV.one=true then some (.int .i64 ((Nat.min k n:Nat):Int),[(l,some (dZ cells off (cont.take (Nat.min k n*ie.size))))]) else none
    | none=>none) else none
   | _,_=>none
  | _,_,_=>none
 | .makeSlice T x y=>match xev G al x,xev G al y,P.underlying T with
  | some (.int _ (.ofNat n)),some (.int _ (.ofNat c)),some (.slice e)=>match P.info? e,iD P e with
   | some ie,some z=>if z.length=ie.size/\0<ie.size/\n<=c/\c*ie.bytes<=140737488355328/\c<=9223372036854775807 then some (.rw lab 0 n ie.size (some c),[(lab,some (zrow z (c*ie.size)))]) else none
   | _,_=>none
  | _,_,_=>none
 | .convert s t x=>match xev G al x,P.underlying s,P.underlying t with
  | some p,some (.slice e),some .string=>match P.underlying e,xslc L 1 p with
   | some (.int .u8),some (cs,k)=>match Fc cs with
    | some bs=>some (.str bs,[])
    | none=>none
   | some (.int .i32),some (cs,k)=>match Fb cs with
    | some ns=>some (.str (lj ns),[])
    | none=>none
   | _,_=>none
  | some (.str bs),some .string,some (.slice e)=>match P.underlying e with
   | some (.int .u8)=>some (.rw lab 0 bs.length 1 none,[(lab,some (fl eU8 bs))])
   | _=>none
  | some (.rw l off n sz co),some (.slice e),some (.slice _)=>match P.underlying e,lget L l with
   | some (.int .u8),some (some cells)=>if s=t/\n≠0 then some (.rw l off n sz co,[(l,some cells)]) else none
   | _,_=>none
  | _,_,_=>xop P G o al L lab
 | .binOp op T x y yt=>match op,xev G al x,xev G al y with
  | .add,some (.str s),some (.str t)=>if s.length+t.length<=9223372036854775807 then some (.str (s++t),[]) else none
  | .eql,some p,some .nils=>bif posS p&&isSl (P.underlying T) then some (.bool false,[]) else xop P G o al L lab
  | .neq,some p,some .nils=>bif posS p&&isSl (P.underlying T) then some (.bool true,[]) else xop P G o al L lab
  | _,_,_=>xop P G o al L lab
 | _=>xop P G o al L lab
end Go.SH
namespace Go.SH
theorem PLe.tup {xs ys:List PV} (h:CLe xs ys):PLe (.tup xs) (.tup ys):=by
 intro w σ av v hv
 cases hv with
 | tup cs hl hv=>
  refine .tup cs (h.1▸hl) fun i y u hy hu=>?_
  have hi:i<xs.length:=by rw [h.1];exact (List.getElem?_eq_some_iff.1 hy).1
  exact h.2 i _ y (List.getElem?_eq_getElem hi) hy _ _ _ _ (hv i _ u (List.getElem?_eq_getElem hi) hu)
theorem PLe.fn {f:FuncId} {xs ys:List PV} (h:CLe xs ys):PLe (.fn f xs) (.fn f ys):=by
 intro w σ av v hv
 cases hv with
 | fn _ cs hl hv=>
  refine .fn f cs (h.1▸hl) fun i y u hy hu=>?_
  have hi:i<xs.length:=by rw [h.1];exact (List.getElem?_eq_some_iff.1 hy).1
  exact h.2 i _ y (List.getElem?_eq_getElem hi) hy _ _ _ _ (hv i _ u (List.getElem?_eq_getElem hi) hu)
theorem PLe.iface {t:TypeId} {x y:PV} (h:PLe x y):PLe (.iface t x) (.iface t y):=by
 intro w σ av v hv
 cases hv with
 | iface _ u hu=>exact .iface t u (h _ _ _ _ hu)
theorem PLe.ro {xs ys:List PV} {n:Nat} {co:Option Nat} (h:CLe xs ys):PLe (.ro xs n co) (.ro ys n none):=by
 intro w σ av v hv
 cases hv with
 | roE a cap hc=>
  have:ys=[]:=List.eq_nil_of_length_eq_zero h.1.symm
  subst this;exact .roE _ _ (by simp)
 | ro cs him hl hv hn hc=>
  refine .ro cs him (h.1▸hl) (fun i y u hy hu=>?_) hn (by simp)
  have hi:i<xs.length:=by rw [h.1];exact (List.getElem?_eq_some_iff.1 hy).1
  exact h.2 i _ y (List.getElem?_eq_getElem hi) hy _ _ _ _ (hv i _ u (List.getElem?_eq_getElem hi) hu)
theorem Ren.ple {τ:Nat->Nat} {x y:PV} (h:Ren τ (fun _=>false) x y):PLe x y:=by
 induction h with
 | pure h=>exact .refl _
 | rw h _=>simp at h
 | ptr h _=>simp at h
 | agg hl _ ih=>exact .agg ⟨hl,ih⟩
 | tup hl _ ih=>exact .tup ⟨hl,ih⟩
 | fn hl _ ih=>exact .fn ⟨hl,ih⟩
 | iface _ ih=>exact .iface ih
 | nilsRo=>exact .nilsRo
 | nilsFs=>exact .nilsFs
 | nilsRw h=>simp at h
 | roCo h=>exact .ro (.refl _)
 | rwCo h _=>simp at h
theorem RenC.cle {τ:Nat->Nat} {xs ys:List PV} (h:RenC τ (fun _=>false) xs ys):CLe xs ys:=⟨h.get.1,fun i x y hx hy=>(h.get.2 i x y hx hy).ple⟩
def j7 (L:Lb) (x y:PV):Prop:=∃z,Out L x z/\PLe z y
theorem Ez {rl:DLb} {t:ET} {q:DV} {l:List t.T} {cells:List PV} (h:SrcS rl t q l cells) (hp:aq (fun _=>false) cells=true) (hq:∃lab sz off n co w,q = .rw lab sz off n co w):j7 (dlb rl) q.pv (.ro (fl (el t) l) l.length none):=by
 obtain ⟨lab,sz,off,n,co,w,rfl⟩:=hq
 obtain ⟨cc,h1,h2,h3,h4,h5⟩:=h.rw _ _ _ _ _ _ rfl
 subst h5;subst h3
 exact ⟨.ro cells l.length none,.rw h1 h4 h2 hp,.ro h.le⟩
mutual
def DV.noF:DV->Bool
 | .ep t _ _ _ _=>t.noF
 | .gp t _=>t.noF
 | .sl t _=>t.noF
 | .fsl _ _ _=>false
 | .fn _ cs=>DV.noFL cs
 | .iface _ v=>v.noF
 | .agg cs=>DV.noFL cs
 | .tup cs=>DV.noFL cs
 | _=>true
def DV.noFL:List DV->Bool
 | []=>true
 | d::r=>d.noF&&DV.noFL r
end
def DV.labsN (S:Nat->Bool) (d:DV):Bool:=d.labs S&&(d.noF||S flab)
def DV.labsLN (S:Nat->Bool) (ds:List DV):Bool:=DV.labsL S ds&&(DV.noFL ds||S flab)
theorem Gt {S:Nat->Bool} (hS:S flab=true) {x:PV} (h:pureF x=true):aC S x=true:=by
 have:∀x:PV,pureF x=true->aC S x=true:=by
  intro x
  apply PV.rec (motive_1:=fun x=>pureF x=true->aC S x=true) (motive_2:=fun xs=>df xs=true->aq S xs=true)
  all_goals intros
  all_goals simp_all [aC,aq,pureF,df]
 exact this x h
theorem yY {S:Nat->Bool} (hS:S flab=true) {xs:List PV} (h:df xs=true):aq S xs=true:=by
 rw [gk] at h;rw [cL]
 rw [List.all_eq_true] at h ⊢
 exact fun x hx=>Gt hS (h x hx)
theorem hY {S:Nat->Bool} {t:ET} (h:t.noF=true\/S flab=true) (l:List t.T):aq S (fl (el t) l)=true:=by
 rcases h with h | h
 ·exact oe (iJ h l)
 ·exact yY h (fG l)
theorem FOut.le {x x' y:PV} (h:PLe x x') (k:FOut x' y):FOut x y:=fun w σ av v σ1 av1 hv=>k w σ av v σ1 av1 (h _ _ _ _ hv)
theorem E2 {q n:Nat} {co:Option Nat} {cells:List PV} (hp:aq (fun _=>false) cells=true):FOut (.fs q cells n co) (.ro cells n none):=by
 intro w σ av v σ1 av1 hv h1 h2
 cases hv with
 | fsE a cap hc=>exact .roE _ _ (by simp)
 | @fs _ _ _ _ β add cap c T fr hf hh hfr hl hv hn hc hz=>
  obtain ⟨e1,e2⟩:=h2 β ⟨q,add,hf⟩
  have get:∀i,i<cells.length->c[add+i]?=some ((c[add+i]?).getD undef):=fun i hi=>by
   rw [Array.getElem?_eq_getElem (by omega)];rfl
  refine .ro ((List.range cells.length).map fun i=>(c[add+i]?).getD undef) ⟨e1,e2,fun i v hv'=>?_⟩ (by simp) (fun i x v hx hv'=>?_) hn (by simp)
  ·have hi:i<cells.length:=by have:=(List.getElem?_eq_some_iff.1 hv').1;simpa using this
   rw [iv hh,get i hi]
   simp [List.getElem?_range hi] at hv'
   rw [hv']
  ·have hi:i<cells.length:=(List.getElem?_eq_some_iff.1 hx).1
   simp [List.getElem?_range hi] at hv'
   refine (hv i x v hx ?_).pure (aK hp hx) h1
   rw [get i hi,hv']
theorem GJ {rl:DLb} {qq:Nat} {t:ET} {q:DV} {l:List (List t.T)} {cells:List PV} (h:SrcS rl (.tf qq t) q l cells) (ht:t.noF=true) (hq:∃lab sz off n co w,q = .rw lab sz off n co w):j7 (dlb rl) q.pv (.ro (fl (el (.tl t)) l) l.length none):=by
 obtain ⟨lab,sz,off,n,co,w,rfl⟩:=hq
 obtain ⟨cc,h1,h2,h3,h4,h5⟩:=h.rw _ _ _ _ _ _ rfl
 subst h5;subst h3
 have e1:∀(l:List (List t.T)),fl (el (.tf qq t)) l=l.map fun x=>PV.fs qq (fl (el t) x) x.length none:=fun l=>by
  induction l with
  | nil=>rfl
  | cons x l ih=>rw [eZ,ih];rfl
 have e2:∀(l:List (List t.T)),fl (el (.tl t)) l=l.map fun x=>PV.ro (fl (el t) x) x.length none:=fun l=>by
  induction l with
  | nil=>rfl
  | cons x l ih=>rw [eZ,ih];rfl
 have hle:=h.le
 rw [e1] at hle
 refine ⟨_,.rwF (part':=fl (el (.tl t)) l) h1 h4 h2 (by rw [e2,hle.1];simp) fun i x y hx hy=>?_,.refl _⟩
 rw [e2] at hy
 simp only [List.getElem?_map,Option.map_eq_some_iff] at hy
 obtain ⟨z,hz,rfl⟩:=hy
 have h6:(l.map fun x=>PV.fs qq (fl (el t) x) x.length none)[i]?=some (PV.fs qq (fl (el t) z) z.length none):=by simp [hz]
 exact FOut.le (hle.2 i x _ hx h6) (E2 (iJ ht z))
section
variable {R:Type} {r:R}
def HK (c:DC):Bool:=match c with
 | .cs cs=>DV.labsLN (fun _=>false) cs
 | .ls t _=>t.noF
 | .gone=>true
def Mf (rl:DLb) (l:Nat) (t:ET):Option Nat:=match lget rl l with
 | some (.ls (.tf q t') _)=>if t'=t then some q else none
 | _=>none
def EA (rl:DLb):(t:ET)->DV->(List t.T->Option R)->Option R
 | .tl t,d,kk=>match d with
  | .rw lab sz off n co w=>match Mf rl lab t with
   | some q=>if t.noF=true then srcL rl (.tf q t) (.rw lab sz off n co w) kk else none
   | none=>none
  | _=>none
 | _,_,_=>none
theorem BS {rl:DLb} {t:ET} {d:DV} {kk:List t.T->Option R} (h:EA rl t d kk=some r):∃l,kk l=some r/\j7 (dlb rl) d.pv (.ro (fl (el t) l) l.length none):=by
 unfold EA at h
 split at h
 ·split at h
  ·split at h
   ·split at h
    ·rename_i ht
     obtain ⟨l,cells,hs,h⟩:=jC h
     exact ⟨l,h,GJ hs ht ⟨_,_,_,_,_,_,rfl⟩⟩
    ·simp at h
   ·simp at h
  ·simp at h
 ·simp at h
def pH (rl:DLb) (l:Nat):Bool:=match lget rl l with
 | some c=>HK c
 | none=>false
def isRw:DV->Bool
 | .rw _ _ _ _ _ _=>true
 | _=>false
def I7:ET->Option ET
 | .tf _ t=>some t
 | _=>none
def borL (rl:DLb):List DV->(List DV->Option R)->Option R
 | [],k=>k []
 | d::ds,k=>match d with
  | .rw lab sz off n co w=>match lget rl lab with
   | some (.ls t _)=>match t.noF with
    | true=>srcL rl t (.rw lab sz off n co w) fun l=>borL rl ds fun ds=>k (.sl t l::ds)
    | false=>match I7 t with
     | some t=>EA rl (.tl t) (.rw lab sz off n co w) fun l=>borL rl ds fun ds=>k (.sl (.tl t) l::ds)
     | none=>none
   | _=>none
  | d=>if d.labsN (fun _=>false)=true then borL rl ds fun ds=>k (d::ds) else none
mutual
def Sh.getB (rl:DLb):Sh->DV->GS->(GS->Option R)->Option R
 | .h (.tl t),d,g,kk=>match d with
  | .rw lab sz off n co w=>if pH rl lab=true then srcL rl t (.rw lab sz off n co w) fun l=>kk (g.put ⟨.tl t,l⟩) else EA rl t (.rw lab sz off n co w) fun l=>kk (g.put ⟨.tl t,l⟩)
  | .fsl q t' x=>if h:t'=t then if t.noF=true then kk (g.put ⟨.tl t,(h▸x:List t.T)⟩) else none else none
  | d=>if d.noF=true then match t.tl.one [d] with
   | some x=>kk (g.put ⟨.tl t,x⟩)
   | none=>none else none
 | .st t,d,g,kk=>match d with
  | .agg ds=>match ds.any isRw with
   | true=>borL rl ds fun ds=>match t.one ds with
    | some x=>kk (g.put ⟨t,x⟩)
    | none=>none
   | false=>if DV.noFL ds=true then match t.one ds with
    | some x=>kk (g.put ⟨t,x⟩)
    | none=>none else none
  | _=>none
 | .agg cs,d,g,kk=>match d with
  | .agg ds=>Sh.getBs rl cs ds g kk
  | _=>none
 | .tup cs,d,g,kk=>match d with
  | .tup ds=>Sh.getBs rl cs ds g kk
  | _=>none
 | s,d,g,kk=>if d.noF=true then match s.get 0 d g with
  | some g'=>match g'.m,g'.q with
   | [],[]=>kk g'
   | _,_=>none
  | none=>none else none
def Sh.getBs (rl:DLb):List Sh->List DV->GS->(GS->Option R)->Option R
 | [],ds,g,kk=>match ds with
  | []=>kk g
  | _::_=>none
 | s::ss,ds,g,kk=>match ds with
  | []=>none
  | d::ds=>s.getB rl d g fun g=>Sh.getBs rl ss ds g kk
end
mutual
theorem jW {S:Nat->Bool}:∀{d:DV},d.labs S=true->(d.noF=true\/S flab=true)->aC S d.pv=true
 | .dead,_,_=>rfl
 | .int _ _,_,_=>rfl
 | .by _,_,_=>rfl
 | .bool _,_,_=>rfl
 | .str _,_,_=>rfl
 | .nilp,_,_=>rfl
 | .nils,_,_=>rfl
 | .nilf,_,_=>rfl
 | .nili,_,_=>rfl
 | .ptr l _,h,_=>h
 | .lp l _ _ _,h,_=>h
 | .ep t l _ _ _,_,h=>by simp only [DV.pv,aC];exact hY h _
 | .gp t l,_,h=>by simp only [DV.pv,aC];exact hY h _
 | .sl t l,_,h=>by simp only [DV.pv,aC];exact hY h _
 | .fsl q t l,_,h=>by
  simp only [DV.noF,Bool.false_eq_true,false_or] at h
  simp only [DV.pv,aC,h,Bool.true_and];exact yY h (fG _)
 | .rw l _ _ _ _ _,h,_=>h
 | .fn _ cs,h,k=>gL (ds:=cs) h k
 | .iface _ v,h,k=>jW (d:=v) h k
 | .agg cs,h,k=>gL (ds:=cs) h k
 | .tup cs,h,k=>gL (ds:=cs) h k
theorem gL {S:Nat->Bool}:∀{ds:List DV},DV.labsL S ds=true->(DV.noFL ds=true\/S flab=true)->aq S (DV.pvs ds)=true
 | [],_,_=>rfl
 | d::r,h,k=>by
  simp only [DV.labsL,Bool.and_eq_true] at h
  simp only [DV.noFL,Bool.and_eq_true] at k
  simp [DV.pvs,aq,jW h.1 (k.imp (·.1) id),gL h.2 (k.imp (·.2) id)]
end
theorem vI {S:Nat->Bool} {d:DV} (h:d.labsN S=true):aC S d.pv=true:=by
 simp only [DV.labsN,Bool.and_eq_true,Bool.or_eq_true] at h
 exact jW h.1 h.2
theorem ir {S:Nat->Bool} {ds:List DV} (h:DV.labsLN S ds=true):aq S (DV.pvs ds)=true:=by
 simp only [DV.labsLN,Bool.and_eq_true,Bool.or_eq_true] at h
 exact gL h.1 h.2
mutual
theorem tG:∀{d:DV},d.noF=true->pureF d.pv=true->j9 d.pv=true
 | .dead,_,_=>rfl
 | .int _ _,_,_=>rfl
 | .by _,_,_=>rfl
 | .bool _,_,_=>rfl
 | .str _,_,_=>rfl
 | .nilp,_,_=>rfl
 | .nils,_,_=>rfl
 | .nilf,_,_=>rfl
 | .nili,_,_=>rfl
 | .ptr l _,_,h=>by simp [DV.pv,pureF] at h
 | .lp l _ _ _,_,h=>by simp [DV.pv,pureF] at h
 | .ep t l _ _ _,h,_=>by simp only [DV.pv,j9,aC];exact iJ h _
 | .gp t l,h,_=>by simp only [DV.pv,j9,aC];exact iJ h _
 | .sl t l,h,_=>by simp only [DV.pv,j9,aC];exact iJ h _
 | .fsl q t l,h,_=>by simp [DV.noF] at h
 | .rw l _ _ _ _ _,_,h=>by simp [DV.pv,pureF] at h
 | .fn _ cs,h,k=>nL (ds:=cs) h (by simpa [DV.pv,pureF] using k)
 | .iface _ v,h,k=>tG (d:=v) h (by simpa [DV.pv,pureF] using k)
 | .agg cs,h,k=>nL (ds:=cs) h (by simpa [DV.pv,pureF] using k)
 | .tup cs,h,k=>nL (ds:=cs) h (by simpa [DV.pv,pureF] using k)
theorem nL:∀{ds:List DV},DV.noFL ds=true->df (DV.pvs ds)=true->aq (fun _=>false) (DV.pvs ds)=true
 | [],_,_=>rfl
 | d::r,h,k=>by
  simp only [DV.noFL,Bool.and_eq_true] at h
  simp only [DV.pvs,df,Bool.and_eq_true] at k
  have:=tG h.1 k.1
  simp only [j9] at this
  simp [DV.pvs,aq,this,nL h.2 k.2]
end
theorem Ren.pureL {τ:Nat->Nat} {x y:PV} (h:Ren τ (fun _=>false) x y):pureF x=true:=by
 have key:∀{xs ys:List PV},xs.length=ys.length->(∀(i:Nat) (x y:PV),xs[i]?=some x->ys[i]?=some y->pureF x=true)->df xs=true:=by
  intro xs ys hl h
  rw [gk,List.all_eq_true]
  intro x hx
  obtain ⟨i,hi⟩:=List.getElem?_of_mem hx
  exact h i x _ hi (List.getElem?_eq_getElem (by rw [<-hl];exact (List.getElem?_eq_some_iff.1 hi).1))
 induction h with
 | pure h=>exact h
 | rw h _=>simp at h
 | ptr h _=>simp at h
 | agg hl _ ih=>exact key hl ih
 | tup hl _ ih=>exact key hl ih
 | fn hl _ ih=>exact key hl ih
 | iface _ ih=>exact ih
 | nilsRo=>rfl
 | nilsFs=>rfl
 | nilsRw h=>simp at h
 | roCo h=>exact h
 | rwCo h _=>simp at h
theorem n5 {c:DC} (h:HK c=true) {cells:List PV} (hc:c.pv=some cells):aq (fun _=>false) cells=true:=by
 cases c with
 | gone=>simp [DC.pv] at hc
 | cs cs=>simp [DC.pv] at hc;subst hc;exact ir h
 | ls t l=>simp [DC.pv] at hc;subst hc;exact iJ h _
theorem nD {cells:List PV} (h:aq (fun _=>false) cells=true) (a b:Nat):aq (fun _=>false) ((cells.drop a).take b)=true:=by
 rw [cL,List.all_eq_true] at h ⊢
 exact fun x hx=>h x (List.mem_of_mem_drop (List.mem_of_mem_take hx))
def GetB (rl:DLb) (d:DV) (g g':GS) (n:Nat) (mk:(Nat->Nat)->List TV->DV×List TV):Prop:=
 ∃xs,g'.vs=g.vs++xs/\xs.length=n/\∀len rest,(mk len (xs++rest)).2=rest/\j7 (dlb rl) d.pv (mk len (xs++rest)).1.pv/\(mk len (xs++rest)).1.ok
def Mt (rl:DLb) (ds:List DV) (g g':GS) (n:Nat) (mk:(Nat->Nat)->List TV->List DV×List TV):Prop:=
 ∃xs,g'.vs=g.vs++xs/\xs.length=n/\∀len rest,(mk len (xs++rest)).2=rest/\((DV.pvs ds).length=(DV.pvs (mk len (xs++rest)).1).length/\∀(i:Nat) (x y:PV),(DV.pvs ds)[i]?=some x->(DV.pvs (mk len (xs++rest)).1)[i]?=some y->j7 (dlb rl) x y)/\DV.oks (mk len (xs++rest)).1
theorem j7.aggs {L:Lb} {xs ys:List PV} (hl:xs.length=ys.length) (h:∀(i:Nat) (x y:PV),xs[i]?=some x->ys[i]?=some y->j7 L x y) :
  ∃zs:List PV,xs.length=zs.length/\(∀(i:Nat) (x z:PV),xs[i]?=some x->zs[i]?=some z->Out L x z)/\CLe zs ys:=by
 induction xs generalizing ys with
 | nil=>
  have:ys=[]:=List.eq_nil_of_length_eq_zero hl.symm
  subst this;exact ⟨[],rfl,by simp,.nil⟩
 | cons x xs ih=>
  cases ys with
  | nil=>simp at hl
  | cons y ys=>
   obtain ⟨z,h1,h2⟩:=h 0 x y rfl rfl
   obtain ⟨zs,e1,e2,e3⟩:=ih (ys:=ys) (by simpa using hl) fun i a b ha hb=>h (i+1) a b (by simpa using ha) (by simpa using hb)
   refine ⟨z::zs,by simp [e1],fun i a b ha hb=>?_,.cons h2 e3⟩
   cases i with
   | zero=>simp at ha hb;subst ha;subst hb;exact h1
   | succ i=>exact e2 i a b (by simpa using ha) (by simpa using hb)
theorem Md {rl:DLb} {s:Sh} {d:DV} {g g':GS} (h:s.get 0 d g=some g') (hm:g'.m=[]) (hq:g'.q=[]) (hn:d.noF=true):GetB rl d g g' s.n s.mk':=by
 obtain ⟨_,xs,h1,h2,h3⟩:=va 0 s h
 refine ⟨xs,h1,h2,fun len rest=>?_⟩
 obtain ⟨e1,e2,e3⟩:=h3 len rest id (fun _=>false) (by simp [yv,hm]) (by simp [hq])
 exact ⟨e1,⟨d.pv,.pure (tG hn e2.pureL),e2.ple⟩,e3⟩
theorem dD {rl:DLb} {s:Sh} {d:DV} {g:GS} {k:GS->Option R} (h:(if d.noF=true then match s.get 0 d g with
  | some g'=>match g'.m,g'.q with
   | [],[]=>k g'
   | _,_=>none
  | none=>none else none)=some r):∃g',k g'=some r/\GetB rl d g g' s.n s.mk':=by
 split at h
 rotate_left
 ·simp at h
 rename_i hn
 split at h
 ·rename_i g' hg
  split at h
  ·rename_i hm hq;exact ⟨g',h,Md hg hm hq hn⟩
  ·simp at h
 ·simp at h
theorem FN {rl:DLb} {t:ET} {d:DV} {g:GS} {x:t.T} (hx:t.one [d]=some x) (hn:d.noF=true):GetB rl d g (g.put ⟨t,x⟩) 1 (Sh.h t).mk':=by
 refine ⟨[⟨t,x⟩],rfl,rfl,fun len rest=>⟨rfl,?_,(AB (τ:=id) (S:=fun _=>false) hx).2⟩⟩
 have e:=(AB (τ:=id) (S:=fun _=>false) hx).1
 exact ⟨d.pv,.pure (tG hn e.pureL),e.ple⟩
theorem j7.ple {L:Lb} {x y z:PV} (h:j7 L x y) (h':PLe y z):j7 L x z:=let ⟨u,h1,h2⟩:=h;⟨u,h1,h2.trans h'⟩
theorem wE {rl:DLb}:∀{ds:List DV} {k:List DV->Option R},borL rl ds k=some r->∃es,k es=some r/\(DV.pvs ds).length=(DV.pvs es).length/\∀(i:Nat) (x y:PV),(DV.pvs ds)[i]?=some x->(DV.pvs es)[i]?=some y->j7 (dlb rl) x y
 | [],k,h=>⟨[],h,rfl,by simp [DV.pvs]⟩
 | d::ds,k,h=>by
  simp only [borL] at h
  split at h
  ·rename_i lab sz off n co w
   split at h
   ·rename_i t y hl
    split at h
    ·rename_i hnf
     obtain ⟨l,cells,hs,h⟩:=jC h
     obtain ⟨es,h1,h2,h3⟩:=wE h
     refine ⟨.sl t l::es,h1,by simp [DV.pvs,h2],fun i x y hx hy=>?_⟩
     cases i with
     | zero=>
      simp [DV.pvs] at hx hy;subst hx;subst hy
      refine Ez hs ?_ ⟨_,_,_,_,_,_,rfl⟩
      obtain ⟨cc,e1,_,_,e4,_⟩:=hs.rw _ _ _ _ _ _ rfl
      rw [<-e4]
      rw [aB,hl] at e1
      exact nD (n5 (c:=.ls t _) hnf (by simpa using e1)) _ _
     | succ i=>exact h3 i x y (by simpa [DV.pvs] using hx) (by simpa [DV.pvs] using hy)
    ·split at h
     ·rename_i t3 _
      obtain ⟨l,h,ho⟩:=BS h
      obtain ⟨es,h1,h2,h3⟩:=wE h
      refine ⟨.sl (.tl t3) l::es,h1,by simp [DV.pvs,h2],fun i x y hx hy=>?_⟩
      cases i with
      | zero=>simp [DV.pvs] at hx hy;subst hx;subst hy;exact ho
      | succ i=>exact h3 i x y (by simpa [DV.pvs] using hx) (by simpa [DV.pvs] using hy)
     ·simp at h
   ·simp at h
  ·split at h
   ·rename_i hp
    obtain ⟨es,h1,h2,h3⟩:=wE h
    refine ⟨_::es,h1,by simp [DV.pvs,h2],fun i x y hx hy=>?_⟩
    cases i with
    | zero=>
     simp [DV.pvs] at hx hy;subst hx;subst hy
     exact ⟨_,.pure (vI hp),.refl _⟩
    | succ i=>exact h3 i x y (by simpa [DV.pvs] using hx) (by simpa [DV.pvs] using hy)
   ·simp at h
theorem IQ {t:ET} {ds:List DV} {x:t.T} (h:t.one ds=some x):CLe (DV.pvs ds) (DV.pvs (t.cells x)):=by
 unfold ET.one at h
 split at h
 ·rename_i y hy
  simp at h;subst h
  obtain ⟨ds',e,hr⟩:=Ag (τ:=id) (S:=fun _=>false) t hy
  rw [List.append_nil] at e;subst e
  rw [n8]
  exact hr.cle
 ·simp at h
theorem GI {rl:DLb} {t:ET} {ds es:List DV} {g:GS} {x:t.T} (hl:(DV.pvs ds).length=(DV.pvs es).length) (ho:∀(i:Nat) (x y:PV),(DV.pvs ds)[i]?=some x->(DV.pvs es)[i]?=some y->j7 (dlb rl) x y) (hx:t.one es=some x) :
  GetB rl (.agg ds) g (g.put ⟨t,x⟩) 1 (Sh.st t).mk':=by
 refine ⟨[⟨t,x⟩],rfl,rfl,fun len rest=>⟨rfl,?_,i8 t x⟩⟩
 have hc:=IQ hx
 obtain ⟨zs,f1,f2,f3⟩:=j7.aggs (ys:=DV.pvs (t.cells x)) (hl.trans hc.1) fun i a b ha hb=>by
  have hi:i<(DV.pvs es).length:=by rw [hc.1];exact (List.getElem?_eq_some_iff.1 hb).1
  have e:=List.getElem?_eq_getElem hi
  exact (ho i a _ ha e).ple (hc.2 i _ b e hb)
 exact ⟨.agg zs,.agg f1 f2,.agg f3⟩
theorem G5 {rl:DLb} {ds:List DV} {t:ET} {x:t.T} (h:t.one ds=some x) (hn:DV.noFL ds=true):∀(i:Nat) (a b:PV),(DV.pvs ds)[i]?=some a->(DV.pvs ds)[i]?=some b->j7 (dlb rl) a b:=by
 intro i a b ha hb
 rw [ha] at hb;simp at hb;subst hb
 unfold ET.one at h
 split at h
 ·rename_i y hy
  obtain ⟨ds',e,hr⟩:=Ag (τ:=id) (S:=fun _=>false) t hy
  rw [List.append_nil] at e;subst e
  have h1:=hr.get
  have hi:i<((el t).pv y).length:=by rw [<-h1.1];exact (List.getElem?_eq_some_iff.1 ha).1
  have hF:df (DV.pvs ds)=true:=by
   rw [gk,List.all_eq_true]
   intro z hz
   obtain ⟨j,hj⟩:=List.getElem?_of_mem hz
   have hj2:j<((el t).pv y).length:=by rw [<-h1.1];exact (List.getElem?_eq_some_iff.1 hj).1
   exact (h1.2 j z _ hj (List.getElem?_eq_getElem hj2)).pureL
  exact ⟨_,.pure (aK (nL hn hF) ha),.refl _⟩
 ·simp at h
mutual
theorem E1 {rl:DLb}:∀(s:Sh) {d:DV} {g:GS} {k:GS->Option R},s.getB rl d g k=some r->∃g',k g'=some r/\GetB rl d g g' s.n s.mk'
 | .h t,d,g,k,h=>by
  cases t with
  | tl t=>
   simp only [Sh.getB] at h
   split at h
   ·rename_i lab sz off n co w
    split at h
    ·rename_i hp
     obtain ⟨l,cells,hs,h⟩:=jC h
     refine ⟨_,h,[⟨.tl t,l⟩],rfl,rfl,fun len rest=>⟨rfl,Ez hs ?_ ⟨_,_,_,_,_,_,rfl⟩,trivial⟩⟩
     obtain ⟨cc,h1,_,_,h4,_⟩:=hs.rw _ _ _ _ _ _ rfl
     rw [<-h4]
     unfold pH at hp
     split at hp
     ·rename_i c hc
      rw [aB,hc] at h1
      exact nD (n5 hp (by simpa using h1)) _ _
     ·simp at hp
    ·obtain ⟨l,h,ho⟩:=BS h
     exact ⟨_,h,[⟨.tl t,l⟩],rfl,rfl,fun len rest=>⟨rfl,ho,trivial⟩⟩
   ·rename_i q t' x
    split at h
    ·rename_i e;subst e
     split at h
     ·rename_i hn
      exact ⟨_,h,[⟨.tl t',x⟩],rfl,rfl,fun len rest=>⟨rfl,⟨_,.fam (E2 (iJ hn x)),.refl _⟩,trivial⟩⟩
     ·simp at h
    ·simp at h
   ·split at h
    ·rename_i hn
     split at h
     ·rename_i x hx;exact ⟨_,h,FN hx hn⟩
     ·simp at h
    ·simp at h
  | ti k'=>simp only [Sh.getB] at h;exact dD h
  | tu=>simp only [Sh.getB] at h;exact dD h
  | tb=>simp only [Sh.getB] at h;exact dD h
  | ts=>simp only [Sh.getB] at h;exact dD h
  | tn=>simp only [Sh.getB] at h;exact dD h
  | tp a c=>simp only [Sh.getB] at h;exact dD h
  | tf q t=>simp only [Sh.getB] at h;exact dD h
 | .agg cs,d,g,k,h=>by
  simp only [Sh.getB] at h
  split at h
  ·rename_i ds
   obtain ⟨g',h,xs,h1,h2,h3⟩:=tU cs h
   refine ⟨g',h,xs,h1,h2,fun len rest=>?_⟩
   obtain ⟨e1,e2,e3⟩:=h3 len rest
   obtain ⟨zs,f1,f2,f3⟩:=j7.aggs e2.1 e2.2
   exact ⟨e1,⟨.agg zs,.agg f1 f2,.agg f3⟩,e3⟩
  ·simp at h
 | .tup cs,d,g,k,h=>by
  simp only [Sh.getB] at h
  split at h
  ·rename_i ds
   obtain ⟨g',h,xs,h1,h2,h3⟩:=tU cs h
   refine ⟨g',h,xs,h1,h2,fun len rest=>?_⟩
   obtain ⟨e1,e2,e3⟩:=h3 len rest
   obtain ⟨zs,f1,f2,f3⟩:=j7.aggs e2.1 e2.2
   exact ⟨e1,⟨.tup zs,.tup f1 f2,.tup f3⟩,e3⟩
  ·simp at h
 | .k c,d,g,k,h=>by simp only [Sh.getB] at h;exact dD h
 | .st t,d,g,k,h=>by
  simp only [Sh.getB] at h
  split at h
  ·rename_i ds
   split at h
   ·obtain ⟨es,h,h1,h2⟩:=wE h
    split at h
    ·rename_i x hx;exact ⟨_,h,GI h1 h2 hx⟩
    ·simp at h
   ·split at h
    ·rename_i hn
     split at h
     ·rename_i x hx;exact ⟨_,h,GI rfl (G5 hx hn) hx⟩
     ·simp at h
    ·simp at h
  ·simp at h
 | .ptr l o,d,g,k,h=>by simp only [Sh.getB] at h;exact dD h
 | .rww l o,d,g,k,h=>by simp only [Sh.getB] at h;exact dD h
 | .rwf l o,d,g,k,h=>by simp only [Sh.getB] at h;exact dD h
 | .fn f cs,d,g,k,h=>by simp only [Sh.getB] at h;exact dD h
 | .iface t s,d,g,k,h=>by simp only [Sh.getB] at h;exact dD h
theorem tU {rl:DLb}:∀(ss:List Sh) {ds:List DV} {g:GS} {k:GS->Option R},Sh.getBs rl ss ds g k=some r->∃g',k g'=some r/\Mt rl ds g g' (Sh.ns ss) (fun len vs=>Sh.mks len ss vs)
 | [],ds,g,k,h=>by
  simp only [Sh.getBs] at h
  split at h
  ·exact ⟨g,h,[],by simp,rfl,fun len rest=>⟨rfl,⟨rfl,by simp [DV.pvs]⟩,trivial⟩⟩
  ·simp at h
 | s::ss,ds,g,k,h=>by
  simp only [Sh.getBs] at h
  split at h
  ·simp at h
  ·rename_i d ds
   obtain ⟨g1,h,xs,h1,h2,h3⟩:=E1 s h
   obtain ⟨g2,h,ys,k1,k2,k3⟩:=tU ss h
   refine ⟨g2,h,xs++ys,by rw [k1,h1,List.append_assoc],by simp [h2,k2,Sh.ns],fun len rest=>?_⟩
   obtain ⟨e1,e2,e3⟩:=h3 len (ys++rest)
   obtain ⟨f1,f2,f3⟩:=k3 len rest
   simp only [Sh.mk'] at e1 e2 e3
   simp only [Sh.mks,List.append_assoc]
   rw [e1]
   refine ⟨f1,⟨by simp [DV.pvs,f2.1],fun i x y hx hy=>?_⟩,e3,f3⟩
   cases i with
   | zero=>simp [DV.pvs] at hx hy;subst hx;subst hy;exact e2
   | succ i=>exact f2.2 i x y (by simpa [DV.pvs] using hx) (by simpa [DV.pvs] using hy)
end
end
end Go.SH
namespace Go.SH
theorem eR.argsLe {E:Env} {f:FuncId} {xs ys:List PV} {L:Lb} {Q:PV->Lb->Prop} (h:eR E f ys L Q) (hl:CLe xs ys):eR E f xs L Q:=by
 intro A w σ cargs hlen hv hb hg
 refine h A w σ cargs (hlen.trans hl.1) (fun i y v hy hc=>?_) hb hg
 have hi:i<xs.length:=by rw [hl.1];exact (List.getElem?_eq_some_iff.1 hy).1
 exact hl.2 i _ y (List.getElem?_eq_getElem hi) hy _ _ _ _ (hv i _ v (List.getElem?_eq_getElem hi) hc)
structure PCon (E:Env) where
 f:FuncId
 ar:List Sh
 out:Sh
 fn:HT (Sh.hss ar)->Option (HT out.hs)
 run:∀args w,(callFunc f args).run E.P w = .ok (.enter f args) w
 ok:∀a v,fn a=some v->Pure E f (DV.pvs (Sh.mks (fun _=>0) ar (ai _ a)).1) (out.mk (fun _=>0) (ai _ v)).1.pv
def dz0:Nat->Nat:=fun _=>0
section
variable {E:Env} {d:Option Tmp} {ty:TypeId} {pos:String} {after:Array Edge} {g:Option (Nat×Bool)} {ra:DAl} {rl:DLb} {R:Type} {r:R} {G:GTab} {k:DV->DLb->DL->Option R}
def Be:DV->Bool
 | .dead=>true
 | .nilp=>true
 | .nils=>true
 | .nilf=>true
 | .nili=>true
 | .int _ _=>true
 | .bool _=>true
 | _=>false
theorem D8 {d:DV} (h:Be d=true):d.ok:=by cases d <;> simp [Be] at h <;> trivial
theorem G8 (t:ET) (x:t.T):(xv (t.cells x)).ok:=by
 unfold xv
 split
 ·rename_i d hd;have:=i8 t x;rw [hd] at this;exact this.1
 ·trivial
mutual
def Sh.kOK:Sh->Bool
 | .k c=>Be c
 | .fn _ cs=>Sh.kOKs cs
 | .iface _ s=>s.kOK
 | .agg cs=>Sh.kOKs cs
 | .tup cs=>Sh.kOKs cs
 | _=>true
def Sh.kOKs:List Sh->Bool
 | []=>true
 | s::r=>s.kOK&&Sh.kOKs r
end
mutual
theorem Co (len:Nat->Nat):∀(s:Sh) (vs:List TV),s.kOK=true->(s.mk len vs).1.ok
 | .h t,vs,_=>by
  simp only [Sh.mk]
  split
  ·exact G8 _ _
  ·trivial
 | .st t,vs,_=>by
  simp only [Sh.mk]
  split
  ·exact i8 _ _
  ·trivial
 | .k c,vs,h=>D8 h
 | .ptr _ _,_,_=>trivial
 | .rww _ _,_,_=>trivial
 | .rwf _ _,_,_=>trivial
 | .fn f cs,vs,h=>pL len cs vs h
 | .iface t s,vs,h=>Co len s vs h
 | .agg cs,vs,h=>pL len cs vs h
 | .tup cs,vs,h=>pL len cs vs h
theorem pL (len:Nat->Nat):∀(ss:List Sh) (vs:List TV),Sh.kOKs ss=true->DV.oks (Sh.mks len ss vs).1
 | [],_,_=>trivial
 | s::ss,vs,h=>by
  simp only [Sh.kOKs,Bool.and_eq_true] at h
  exact ⟨Co len s vs h.1,pL len ss _ h.2⟩
end
def ET.noRo:ET->Bool
 | .tp a c=>a.noRo&&c.noRo
 | .tl _=>false
 | .tf _ _=>false
 | _=>true
theorem tF {xs ys:List PV}:lz (xs++ys)=(lz xs&&lz ys):=by
 induction xs with
 | nil=>rfl
 | cons x xs ih=>simp [lz,ih,Bool.and_assoc]
theorem Ja:∀(t:ET),t.noRo=true->∀x:t.T,lz ((el t).pv x)=true:=by
 intro t
 induction t with
 | tp a c iha ihc=>
  intro h x
  simp only [ET.noRo,Bool.and_eq_true] at h
  show lz ((el a).pv x.1++(el c).pv x.2)=true
  rw [tF,iha h.1,ihc h.2];rfl
 | tl t _=>intro h;simp [ET.noRo] at h
 | tf q t _=>intro h;simp [ET.noRo] at h
 | ti k=>intro _ x;rfl
 | tu=>intro _ x;rfl
 | tb=>intro _ x;rfl
 | ts=>intro _ x;rfl
 | tn=>intro _ x;rfl
theorem I6 {t:ET} (h:t.noRo=true) (l:List t.T):lz (fl (el t) l)=true:=by
 induction l with
 | nil=>rfl
 | cons x l ih=>rw [eZ,tF,Ja t h,ih];rfl
mutual
def DV.noRoK:DV->Bool
 | .dead=>true
 | .int _ _=>true
 | .by _=>true
 | .bool _=>true
 | .str _=>true
 | .nilp=>true
 | .nils=>true
 | .nilf=>true
 | .nili=>true
 | .fsl _ t _=>t.noRo
 | .agg cs=>DV.noRoKL cs
 | .tup cs=>DV.noRoKL cs
 | .iface _ v=>v.noRoK
 | .fn _ cs=>DV.noRoKL cs
 | _=>false
def DV.noRoKL:List DV->Bool
 | []=>true
 | d::r=>d.noRoK&&DV.noRoKL r
end
mutual
theorem xy:∀{d:DV},d.noRoK=true->noRo d.pv=true
 | .dead,_=>rfl
 | .int _ _,_=>rfl
 | .by _,_=>rfl
 | .bool _,_=>rfl
 | .str _,_=>rfl
 | .nilp,_=>rfl
 | .nils,_=>rfl
 | .nilf,_=>rfl
 | .nili,_=>rfl
 | .fsl q t l,h=>by simp only [DV.pv,noRo];exact I6 h l
 | .agg cs,h=>by simp only [DV.pv,noRo];exact qm (ds:=cs) h
 | .tup cs,h=>by simp only [DV.pv,noRo];exact qm (ds:=cs) h
 | .iface _ v,h=>by simp only [DV.pv,noRo];exact xy (d:=v) h
 | .fn _ cs,h=>by simp only [DV.pv,noRo];exact qm (ds:=cs) h
 | .ptr _ _,h=>by simp [DV.noRoK] at h
 | .lp _ _ _ _,h=>by simp [DV.noRoK] at h
 | .ep _ _ _ _ _,h=>by simp [DV.noRoK] at h
 | .gp _ _,h=>by simp [DV.noRoK] at h
 | .sl _ _,h=>by simp [DV.noRoK] at h
 | .rw _ _ _ _ _ _,h=>by simp [DV.noRoK] at h
theorem qm:∀{ds:List DV},DV.noRoKL ds=true->lz (DV.pvs ds)=true
 | [],_=>rfl
 | d::r,h=>by
  simp only [DV.noRoKL,Bool.and_eq_true] at h
  simp [DV.pvs,lz,xy h.1,qm h.2]
end
def D3 (rl:DLb) (con:PCon E) (f:FuncId) (args:List DV) (k:DV->DLb->DL->Option R):Option R:=
 if con.f=f/\con.out.kOK=true then Sh.getBs rl con.ar args ⟨[],[],[]⟩ fun g=>match pack (Sh.hss con.ar) g.vs with
  | some a=>(con.fn a).bind fun v=>if (DV.labsLN (fun _=>false) args||(con.out.mk dz0 (ai _ v)).1.noRoK)=true then k (con.out.mk dz0 (ai _ v)).1 [] [] else none
  | none=>none else none
theorem FZ (hG:E.G=gtPV G) (hE:GOK E) (hal:alOk ra) {con:PCon E} {f:FuncId} {fo:Operand} {args:Array Operand} {ts:Array TypeId} {caps xs:List DV} (hf:dev G ra fo=some (.fn f caps)) (hx:devs G ra args.toList=some xs)
  (h:D3 rl con f (xs++caps) k=some r):OpS E ⟨d,.call ⟨.value fo,args,ts⟩,ty,pos,after,g⟩ ra rl k r:=by
 obtain ⟨hf',hfo⟩:=bT hal hf
 obtain ⟨hx',hxo⟩:=t9 hal hx
 rw [<-hG] at hf' hx'
 unfold D3 at h
 split at h
 ·rename_i e;obtain ⟨e,ho⟩:=e;subst e
  obtain ⟨g',h,as,h1,h2,h3⟩:=tU con.ar h
  split at h
  ·rename_i a ha
   obtain ⟨v,hv,h⟩:=bind_some h
   split at h
   ·rename_i hp
    have hu:=sX ha
    obtain ⟨_,hB,_⟩:=h3 (fun _=>0) []
    have h1':g'.vs=as:=by rw [h1];rfl
    rw [List.append_nil,<-h1',<-hu] at hB
    have hP:=con.ok a v hv
    obtain ⟨zs,z1,z2,z3⟩:=j7.aggs hB.1 hB.2
    have hA:=Db (d:=d) (ty:=ty) (pos:=pos) (after:=after) (g:=g) (ts:=ts) (rl:=dlb rl) (v:=(con.out.mk dz0 (ai _ v)).1.pv) hf' hx' con.run hE (by rw [eE] at z1;exact z1) (by rw [eE] at z2;exact z2) (hP.argsLe z3) (by
     simp only [Bool.or_eq_true] at hp
     rcases hp with hp | hp
     ·left;have:=ir hp;rwa [eE] at this
     ·exact .inr (xy hp))
    exact .val hA (Co _ _ _ ho) h
   ·simp at h
  ·simp at h
 ·simp at h
theorem It {t:ET} {z:List DV} {x:t.T} {c:Nat} (hz:z.length=t.sz) (hx:CLe (DV.pvs z) ((el t).pv x)):CLe (zrow (DV.pvs z) (c*t.sz)) (fl (el t) (List.replicate c x)):=by
 have hl:(zrow (DV.pvs z) (c*t.sz)).length=c*t.sz:=by simp [zrow]
 refine ⟨by rw [hl,bM,jz];simp,fun i a b ha hb=>?_⟩
 have hi:i<c*t.sz:=by rw [<-hl];exact (List.getElem?_eq_some_iff.1 ha).1
 have hm:i % t.sz<t.sz:=Nat.mod_lt _ t.sz_pos
 have hq:i / t.sz<c:=Nat.div_lt_of_lt_mul (by rw [Nat.mul_comm];exact hi)
 have e:i=i / t.sz*(el t).sz+i % t.sz:=by rw [jz,Nat.mul_comm];exact (Nat.div_add_mod i t.sz).symm
 rw [e,AS (by rw [List.getElem?_replicate,if_pos hq]) (by rw [jz];exact hm)] at hb
 simp only [zrow,List.getElem?_map,List.getElem?_range hi,Option.map_some,Option.some.injEq,aV,hz] at ha
 have hzl:i % t.sz<(DV.pvs z).length:=by rw [aV,hz];exact hm
 have ha':(DV.pvs z)[i % t.sz]?=some a:=by
  rw [<-ha,List.getD_eq_getElem?_getD,List.getElem?_eq_getElem hzl];rfl
 exact hx.2 _ a b ha' hb
def LR:Operand->Operand->Bool
 | .tmp a,.tmp b=>Nat.beq a b
 | _,_=>false
def sb (P:Program) (fq:Nat) (nl:Nat) (T:TypeId) (w:Bool) (x y:DV) (k:DV->DLb->DL->Option R):Option R:=match AV P fq T with
 | some (ie,z,t)=>match t.one z with
  | some z0=>match me x,me y with
   | some (_,n),some (_,c)=>req (0<=n/\n<=c/\c.toNat*ie.bytes<=aS) (k (.rw nl t.sz 0 n.toNat (some c.toNat) w) [(nl,.ls t (List.replicate c.toNat z0))] [(nl,none)])
   | _,_=>none
  | none=>none
 | none=>none
theorem yO {fq:Nat} (hG:E.G=gtPV G) (hal:alOk ra) {nl:Nat} (hn:lget rl nl=none) {T:TypeId} {x y:Operand} {w:Bool} {a b:DV} (hx:dev G ra x=some a) (hy:dev G ra y=some b)
  (h:sb E.P fq nl T w a b k=some r):OpS E ⟨d,.makeSlice T x y,ty,pos,after,g⟩ ra rl k r:=by
 have hx':=(bT hal hx).1
 have hy':=(bT hal hy).1
 rw [<-hG] at hx' hy'
 unfold sb at h
 split at h
 ·rename_i ie z t he
  obtain ⟨e,hu,hie,hz,hz2,hzl,hpos,hsz,hby⟩:=zI he
  split at h
  ·rename_i z0 hz0
   split at h
   ·rename_i _ n _ c ha hb
    obtain ⟨⟨h0,h1,h2⟩,h⟩:=dK h
    rw [jX ha,show n=((n.toNat:Nat):Int) from by omega] at hx'
    rw [jX hb,show c=((c.toNat:Nat):Int) from by omega] at hy'
    unfold aS at h2
    have hc2:c.toNat<=9223372036854775807:=Nat.le_trans (Nat.le_mul_of_pos_right _ hby) (by omega)
    have hA:=yV (d:=d) (ty:=ty) (pos:=pos) (after:=after) (g:=g) (rl:=dlb rl) nl hx' hy' hu hie hz (by rw [aV];exact hzl) hpos (by omega) h2 hc2 (by simp [aB,hn])
    refine ⟨.rw nl t.sz 0 n.toNat (some c.toNat) w,[(nl,.ls t (List.replicate c.toNat z0))],_,AOp.weak hA ?_ (.one ?_),trivial,?_,?_,h⟩
    ·rw [hsz];simp [DV.pv];exact .refl _
    ·rw [hsz];exact It (by rw [hzl,hsz]) (G7 hz0)
    ·intro p hp;simp at hp;subst hp;trivial
    ·intro p hp;simp at hp;subst hp;exact .inl (by simp)
   ·simp at h
  ·simp at h
 ·simp at h
def HW (P:Program) (rl:DLb) (nl:Nat) (s t:TypeId) (a:DV) (k:DV->DLb->DL->Option R):Option R:=match P.underlying t with
 | some (.int kk)=>match me a with
  | some (_,n)=>match P.underlying s with
   | some _=>k (ofInt kk (kk.wrap n)) [] []
   | none=>none
  | none=>none
 | some .string=>match P.underlying s with
  | some .string=>match a with
   | .str bs=>k (.str bs) [] []
   | _=>none
  | some (.slice e)=>match P.underlying e with
   | some (.int .u8)=>srcL rl .tu a fun bs=>k (.str bs) [] []
   | some (.int .i32)=>srcL rl (.ti .i32) a fun ns=>k (.str (lj ns)) [] []
   | _=>none
  | _=>none
 | some (.slice e)=>match P.underlying e with
  | some (.int .u8)=>match P.underlying s with
   | some .string=>match a with
    | .str bs=>k (.rw nl 1 0 bs.length none true) [(nl,.ls .tu bs)] [(nl,none)]
    | _=>none
   | _=>none
  | _=>none
 | _=>none
theorem HV (hG:E.G=gtPV G) (hal:alOk ra) {nl:Nat} (hn:lget rl nl=none) {s t:TypeId} {x:Operand} {a:DV} (hx:dev G ra x=some a)
  (h:HW E.P rl nl s t a k=some r):OpS E ⟨d,.convert s t x,ty,pos,after,g⟩ ra rl k r:=by
 have hx':=(bT hal hx).1
 rw [<-hG] at hx'
 unfold HW at h
 split at h
 ·rename_i kk hu
  split at h
  ·rename_i _ n ha
   split at h
   ·rename_i _ hs
    rw [jX ha] at hx'
    refine .val (AOp.weak (qb hx' (q:=.int kk (kk.wrap n)) (by simp [BG,hs,hu])) ?_ .nil) (nJ _ _) h
    rw [nI (fun e=>by subst e;exact fJ _)];exact .refl _
   ·simp at h
  ·simp at h
 ·rename_i hu
  split at h
  ·rename_i hs
   split at h
   ·exact .val (x:=.str _) (qb hx' (by simp [BG,hs,hu,DV.pv])) trivial h
   ·simp at h
  ·rename_i e hs
   split at h
   ·rename_i he
    obtain ⟨bs,cells,hc,h⟩:=jC h
    have e1:=hc.u8 (.inl rfl)
    have e2:=hc.slc
    rw [e1,show fl (el .tu) bs=uf bs from (sg bs).symm] at e2
    exact .val (x:=.str bs) (BA hx' hs he hu e2) trivial h
   ·rename_i he
    obtain ⟨ns,cells,hc,h⟩:=jC h
    have e1:=hc.u8 (.inr rfl)
    have e2:=hc.slc
    rw [e1,E4] at e2
    exact .val (x:=.str (lj ns)) (Bz hx' hs he hu e2) trivial h
   ·simp at h
  ·simp at h
 ·rename_i e hu
  split at h
  ·rename_i he
   split at h
   ·rename_i hs
    split at h
    ·rename_i bs
     refine .new (x:=.rw nl 1 0 bs.length none true) (c:=.ls .tu bs) ?_ trivial trivial h
     have:=Bw (d:=d) (ty:=ty) (pos:=pos) (after:=after) (g:=g) (rl:=dlb rl) nl hx' hs hu he (by simp [aB,hn])
     simpa [DV.pv,DC.pv,el] using this
    ·simp at h
   ·simp at h
  ·simp at h
 ·simp at h
structure OH where
 split:Bool:=false
 sel:Bool:=false
 fz:List (Nat×ET):=[]
 con:Nat:=0
 io:Option Nat:=none
 nq:Bool:=false
 sw:Bool:=false
 wk:Bool:=false
 fq:Nat:=0
def dOp (E:Env) (G:GTab) (C:Nat->Option (PCon E)) (oh:OH) (o:Oper) (al:DAl) (L:DLb) (nl:Nat) (k:DV->DLb->DL->Option R):Option R:=match o.op with
 | .move x=>match dev G al x with
  | some v=>k v [] []
  | none=>none
 | .assign x=>match dev G al x with
  | some v=>k v [] []
  | none=>none
 | .pick c x y=>HP G al c x y k
 | .binOp op T x y _=>match dev G al x,dev G al y with
  | some a,some b=>dBin E.P op T x y a b fun v=>k v [] []
  | _,_=>none
 | .unOp op _ x=>match dev G al x with
  | some a=>dUn op a fun v=>k v [] []
  | none=>none
 | .convert s t x=>match dev G al x with
  | some a=>HW E.P L nl s t a k
  | none=>none
 | .load T p=>match dev G al p with
  | some q=>HR E.P T L q fun v=>k v [] []
  | none=>none
 | .store T p v=>match o.dst with
  | none=>match dev G al p,dev G al v with
   | some a,some b=>DY E.P T L a b k
   | _,_=>none
  | some _=>none
 | .box _ x=>match dev G al x with
  | some v=>dBox nl v k
  | none=>none
 | .alloc T=>D7 E.P T nl k
 | .build T ps=>D5 E.P G al T ps.toList k
 | .buildSlice T len ps=>pW E.P G al nl T len ps.toList k
 | .fieldAddr S x f=>match dev G al x with
  | some p=>se E.P S f p k
  | none=>none
 | .field S x f=>match dev G al x with
  | some p=>D2 E.P S f p k
  | none=>none
 | .extract x i=>match dev G al x with
  | some p=>yi p i k
  | none=>none
 | .makeFunc (.func f) first caps=>match first with
  | ⟨[]⟩=>vk G al f caps.toList k
  | _=>none
 | .makeInterface T x=>match dev G al x with
  | some p=>sc E.P T p k
  | none=>none
 | .nilCheck x=>match dev G al x with
  | some p=>vj p k
  | none=>none
 | .indexAddr T x ix=>match dev G al x,dev G al ix with
  | some p,some q=>match me q with
   | some (_,i)=>sd E.P oh.sel T L p i k
   | none=>none
  | _,_=>none
 | .index T x ix=>match dev G al x,dev G al ix with
  | some p,some q=>match me q with
   | some (_,i)=>D0 E.P oh.sel T p i k
   | none=>none
  | _,_=>none
 | .slice T x lo hi mx=>match mx with
  | none=>match dev G al x with
   | some p=>DZ E.P G al T L p lo hi k
   | none=>none
  | some _=>none
 | .makeSlice T x y=>match dev G al x,dev G al y with
  | some a,some b=>sb E.P oh.fq nl T (LR x y) a b k
  | _,_=>none
 | .call ⟨.builtin .len,⟨[x]⟩,⟨[t]⟩⟩=>dLen E.P t (dev G al x) k
 | .call ⟨.builtin .min,xs,_⟩=>wC false G al xs.toList k
 | .call ⟨.builtin .max,xs,_⟩=>wC true G al xs.toList k
 | .call ⟨.builtin .append,⟨[x,y]⟩,⟨[T,tx]⟩⟩=>match dev G al x,dev G al y with
  | some p,some q=>Bc E.P oh.fq L nl T tx p q k
  | _,_=>none
 | .call ⟨.builtin .copy,⟨[x,y]⟩,⟨[T,_]⟩⟩=>match dev G al x,dev G al y with
  | some p,some q=>HU E.P L T p q k
  | _,_=>none
 | .call ⟨.value fo,args,_⟩=>match dev G al fo with
  | some (.fn f caps)=>match devs G al args.toList with
   | some xs=>match C oh.con with
    | some con=>D3 L con f (xs++caps) k
    | none=>none
   | none=>none
  | _=>none
 | _=>none
theorem KO (hG:E.G=gtPV G) (hE:GOK E) {C:Nat->Option (PCon E)} {oh:OH} {o:Oper} {nl:Nat} (hal:alOk ra) (hrl:lbOk rl) (hn:lget rl nl=none) (h:dOp E G C oh o ra rl nl k=some r):OpS E o ra rl k r:=by
 obtain ⟨dst,op,ty,pos,after,g⟩:=o
 unfold dOp at h
 simp only at h
 split at h
 case h_1 x=>
  split at h
  ·rename_i v hv;obtain ⟨h1,h2⟩:=bT hal hv;rw [<-hG] at h1;exact .val (Da h1) h2 h
  ·simp at h
 case h_2 x=>
  split at h
  ·rename_i v hv;obtain ⟨h1,h2⟩:=bT hal hv;rw [<-hG] at h1;exact .val (sm h1) h2 h
  ·simp at h
 case h_3=>exact HO hG hal h
 case h_4=>
  split at h
  ·rename_i a b ha hb;exact Jf hG hal ha hb h
  ·simp at h
 case h_5=>
  split at h
  ·rename_i a ha;exact KN hG hal ha h
  ·simp at h
 case h_6=>
  split at h
  ·rename_i a ha;exact HV hG hal hn ha h
  ·simp at h
 case h_7=>
  split at h
  ·rename_i a ha;exact HQ hG hal hrl ha h
  ·simp at h
 case h_8=>
  split at h
  ·split at h
   ·rename_i a b ha hb;exact FV hG hal hrl ha hb h
   ·simp at h
  ·simp at h
 case h_9=>
  split at h
  ·rename_i a ha;exact Je hG hal hn ha h
  ·simp at h
 case h_10=>exact F2 hn h
 case h_11=>exact F1 hG hal h
 case h_12=>exact yk hG hal hn h
 case h_13=>
  split at h
  ·rename_i a ha;exact yR hG hal ha h
  ·simp at h
 case h_14=>
  split at h
  ·rename_i a ha;exact FY hG hal ha h
  ·simp at h
 case h_15=>
  split at h
  ·rename_i a ha;exact CL hG hal ha h
  ·simp at h
 case h_16=>
  split at h
  ·exact A9 hG hal h
  ·simp at h
 case h_17=>
  split at h
  ·rename_i a ha;exact yP hG hal ha h
  ·simp at h
 case h_18=>
  split at h
  ·rename_i a ha;exact A8 hG hal ha h
  ·simp at h
 case h_19=>
  split at h
  ·rename_i a b ha hb
   split at h
   ·rename_i _ i hi;exact yQ hG hal ha hb hi h
   ·simp at h
  ·simp at h
 case h_20=>
  split at h
  ·rename_i a b ha hb
   split at h
   ·rename_i _ i hi;exact FX hG hal ha hb hi h
   ·simp at h
  ·simp at h
 case h_21=>
  split at h
  ·split at h
   ·rename_i a ha;exact FW hG hal ha h
   ·simp at h
  ·simp at h
 case h_22=>
  split at h
  ·rename_i a b ha hb;exact yO hG hal hn ha hb h
  ·simp at h
 case h_23=>exact Jd hG hal (fun q hq=>hq) h
 case h_24=>exact yh (mx:=false) hG hal h
 case h_25=>exact yh (mx:=true) hG hal h
 case h_26=>
  split at h
  ·rename_i a b ha hb;exact D6 hG hal hn ha hb h
  ·simp at h
 case h_27=>
  split at h
  ·rename_i a b ha hb;exact HS hG hal ha hb h
  ·simp at h
 case h_28=>
  split at h
  ·rename_i f caps hf
   split at h
   ·rename_i xs hx
    split at h
    ·rename_i con hc;exact FZ hG hE hal hf hx h
    ·simp at h
   ·simp at h
  ·simp at h
 case h_29=>simp at h
end
def LSh.kOK:LSh->Bool
 | .ls _=>true
 | .cs ss=>Sh.kOKs ss
def Tm.kOK (tm:Tm):Bool:=tm.slots.all (fun p=>p.2.kOK)&&tm.labs.all (fun p=>p.2.kOK)&&tm.cups.all fun p=>p.2.2.kOK
theorem Hh {len:Nat->Nat}:∀{sl:List (Nat×Sh)} {vs:List TV},sl.all (fun p=>p.2.kOK)=true->∀p∈(mkS len sl vs).1,p.2.ok
 | [],vs,_=>by simp [mkS]
 | (t,s)::sl,vs,h=>by
  simp only [List.all_cons,Bool.and_eq_true] at h
  intro p hp
  simp only [mkS] at hp
  rcases List.mem_cons.1 hp with rfl | hp
  ·exact Co len s vs h.1
  ·exact Hh h.2 p hp
theorem oJ {len:Nat->Nat}:∀{sl:List (Nat×LSh)} {vs:List TV},sl.all (fun p=>p.2.kOK)=true->∀p∈(mkL len sl vs).1,p.2.ok
 | [],vs,_=>by simp [mkL]
 | (t,s)::sl,vs,h=>by
  simp only [List.all_cons,Bool.and_eq_true] at h
  intro p hp
  simp only [mkL] at hp
  rcases List.mem_cons.1 hp with rfl | hp
  ·cases s with
   | ls t=>simp only [LSh.mk];split <;> trivial
   | cs ss=>exact pL len ss vs h.1
  ·exact oJ h.2 p hp
theorem EX {len:Nat->Nat}:∀{sl:List (Nat×Nat×Sh)} {vs:List TV},sl.all (fun p=>p.2.2.kOK)=true->∀p∈(mkC len sl vs).1,p.2.2.ok
 | [],vs,_=>by simp [mkC]
 | (t,i,s)::sl,vs,h=>by
  simp only [List.all_cons,Bool.and_eq_true] at h
  intro p hp
  simp only [mkC] at hp
  rcases List.mem_cons.1 hp with rfl | hp
  ·exact Co len s vs h.1
  ·exact EX h.2 p hp
theorem H7 {tm:Tm} (h:tm.kOK=true) (v:tm.T) {b:St} (hb:b.ok):(tm.app v b).ok:=by
 simp only [Tm.kOK,Bool.and_eq_true] at h
 refine ⟨fun t x hx=>?_,fun l c hl=>?_⟩
 ·simp only [Tm.app,Tm.appL] at hx
  rcases nT hx with ⟨p,hp,rfl⟩ | ⟨_,hx⟩
  ·exact Hh h.1.1 _ hp
  ·exact hb.1 _ _ (kJ (aw hx)).2
 ·simp only [Tm.app,Tm.appL] at hl
  rcases nT hl with ⟨p,hp,rfl⟩ | ⟨_,hl⟩
  ·exact oJ h.1.2 _ hp
  ·obtain ⟨⟨l',c0⟩,hp,e⟩:=List.mem_map.1 (aw hl)
   simp only [Prod.mk.injEq] at e;obtain ⟨rfl,rfl⟩:=e
   have hok:=hb.2 _ _ (kJ hp).2
   cases c0 with
   | gone=>simp only [cupL];split <;> trivial
   | ls t x=>simp only [cupL];split <;> trivial
   | cs cs0=>
    simp only [cupL]
    split
    ·trivial
    ·refine fQ.2 fun x hx=>?_
     obtain ⟨i,hi⟩:=List.getElem?_of_mem hx
     rw [la] at hi
     cases hc0:cs0[i]? with
     | none=>rw [hc0] at hi;simp at hi
     | some d0=>
      rw [hc0] at hi
      simp only [Option.map_some,Option.some.injEq,Nat.zero_add] at hi
      subst hi
      rcases oT _ l' i d0 with ⟨h5,_⟩ | ⟨c,h5,_,_,h8⟩
      ·rw [h5];exact ql hok hc0
      ·rw [h8];exact EX h.2 c h5
end Go.SH
namespace Go.SH
mutual
def PV.rn (τ:Nat->Nat):PV->PV
 | .ptr l o=>.ptr (τ l) o
 | .rw l o n sz co=>.rw (τ l) o n sz co
 | .rop cs o=>.rop (PV.rns τ cs) o
 | .ro cs n co=>.ro (PV.rns τ cs) n co
 | .fs q cs n co=>.fs q (PV.rns τ cs) n co
 | .fn f cs=>.fn f (PV.rns τ cs)
 | .iface t v=>.iface t (v.rn τ)
 | .agg cs=>.agg (PV.rns τ cs)
 | .tup cs=>.tup (PV.rns τ cs)
 | .yld n ps a b ts vs=>.yld n ps a b ts (PV.rns τ vs)
 | x=>x
def PV.rns (τ:Nat->Nat):List PV->List PV
 | []=>[]
 | x::r=>x.rn τ::PV.rns τ r
end
theorem Dn (τ:Nat->Nat):∀l:List PV,PV.rns τ l=l.map (PV.rn τ)
 | []=>rfl
 | x::r=>by simp [PV.rns,Dn τ r]
theorem Ar {τ:Nat->Nat} {l:List PV} {i:Nat} {y:PV} (h:(PV.rns τ l)[i]?=some y):∃x,l[i]?=some x/\y=x.rn τ:=by
 rw [Dn,List.getElem?_map] at h
 cases hx:l[i]? with
 | none=>rw [hx] at h;simp at h
 | some x=>rw [hx] at h;simp at h;exact ⟨x,rfl,h.symm⟩
theorem lD (τ:Nat->Nat) (l:List PV):(PV.rns τ l).length=l.length:=by simp [Dn]
theorem VR.rnT {w:World} {σ σ':Sig} {av av':Nat->Prop} {τ:Nat->Nat} {S:Nat->Bool} (hσ:∀l,S l=true->σ' (τ l)=σ l) (hF:∀q β add,σ.fam q β add->σ'.fam q β add) (hav:∀β,¬av β->¬av' β) {x:PV} {v:Value} (h:VR w σ av x v):aC S x=true->VR w σ' av' (x.rn τ) v:=by
 have imm:∀{β add cs},Imm w av β add cs->Imm w av' β add cs:=fun h=>⟨h.lt,hav _ h.na,h.cell⟩
 have key:∀{cells:List PV} {cs:List Value},(∀(i:Nat) (x:PV) (v:Value),cells[i]?=some x->cs[i]?=some v->aC S x=true->VR w σ' av' (x.rn τ) v)->aq S cells=true ->
   ∀(i:Nat) (y:PV) (u:Value),(PV.rns τ cells)[i]?=some y->cs[i]?=some u->VR w σ' av' y u:=by
  intro cells cs ih hw i y u hy hu
  obtain ⟨x,h1,rfl⟩:=Ar hy
  exact ih i x u h1 hu (aK hw h1)
 induction h with
 | dead=>exact fun _=>.dead
 | int k n=>exact fun _=>.int k n
 | bool b=>exact fun _=>.bool b
 | str l=>exact fun _=>.str l
 | nilp=>exact fun _=>.nilp
 | ptr h=>exact fun hw=>.ptr (by rw [hσ _ hw];exact h)
 | rop cs him hl hv ih=>exact fun hw=>.rop cs (imm him) (by rw [lD];exact hl) (key ih hw)
 | nils=>exact fun _=>.nils
 | roE a cap hc=>exact fun _=>.roE a cap hc
 | ro cs him hl hv hn hc ih=>exact fun hw=>.ro cs (imm him) (by rw [lD];exact hl) (key ih hw) hn hc
 | rwE a hc=>exact fun _=>.rwE a hc
 | rw h hn hc hs=>exact fun hw=>.rw (by rw [hσ _ hw];exact h) hn hc hs
 | fsE a cap hc=>exact fun _=>.fsE a cap hc
 | @fs q cells n co β add cap c T fr h hh hfr hl hv hn hc hz ih=>
  intro hw
  simp only [aC,Bool.and_eq_true] at hw
  refine .fs (hF _ _ _ h) hh hfr (by rw [lD];exact hl) (fun i y u hy hu=>?_) hn hc (by rw [lD];exact hz)
  obtain ⟨x,h1,rfl⟩:=Ar hy
  exact ih i x u h1 hu (aK hw.2 h1)
 | fn f cs hl hv ih=>exact fun hw=>.fn f cs (by rw [lD];exact hl) (key ih hw)
 | nilf=>exact fun _=>.nilf
 | raw v=>exact fun _=>.raw v
 | iface t v _ ih=>exact fun hw=>.iface t v (ih hw)
 | nili=>exact fun _=>.nili
 | agg cs hl hv ih=>exact fun hw=>.agg cs (by rw [lD];exact hl) (key ih hw)
 | tup cs hl hv ih=>exact fun hw=>.tup cs (by rw [lD];exact hl) (key ih hw)
 | yld l fn dfr tmps cs hn hl hz hc ht hv ih=>
  intro hw
  simp only [aC,Bool.and_eq_true] at hw
  exact .yld l fn dfr tmps cs (hav _ hn) hl hz (by rw [lD];exact hc) ht (key ih hw.2)
open Classical in
theorem eR.ren {E:Env} {f:FuncId} {xs ys:List PV} {L1 L2 LL1 LL2:Lb} {τ:Nat->Nat} {V1:PV} (h:eR E f ys L1 fun r L'=>r=V1/\L'=LL1) (hlen:xs.length=ys.length)
  (ha:∀(i:Nat) (x y:PV),xs[i]?=some x->ys[i]?=some y->Ren τ (hasL L1) x y) (hb:∀l c,lget L1 l=some c->∃cells xs,c=some cells/\lget L2 (τ l)=some (some xs)/\RenC τ (hasL L1) xs cells)
  (hcov:∀k,lget L2 k≠none->∃l,lget L1 l≠none/\τ l=k) (hinj:∀l l',lget LL1 l≠none->lget LL1 l'≠none->τ l=τ l'->l=l') (hdom:∀l,lget L1 l≠none->lget LL1 l≠none)
  (hV:aC (hasL LL1) V1=true) (hC:∀l cells,lget LL1 l=some (some cells)->aq (hasL LL1) cells=true) (hLL:∀l c,lget LL1 l=some c->lget LL2 (τ l)=some (c.map (PV.rns τ)))
  (hLL':∀k,lget LL2 k≠none->∃l,lget LL1 l≠none/\τ l=k) (hk:∀l,lget L1 l≠none->τ l=dN->l=dN) (hG:GOK E):eR E f xs L2 fun r L'=>r=V1.rn τ/\L'=LL2:=by
 intro A w σ cargs hl hv hbr hg
 let σ1:Sig:=⟨fun l=>if hasL L1 l then σ (τ l) else none,σ.fam⟩
 have hS:∀l,hasL L1 l=true->σ1 l=σ (τ l):=fun l h=>by simp [σ1,h]
 have hne:∀{L:Lb} {l:Nat},lget L l≠none->hasL L l=true:=fun h=>by simpa [hasL,Option.isSome_iff_ne_none] using h
 have hlav:∀β,cG σ1 L1 β->cG σ L2 β:=by
  rintro β ⟨l,cells,x,s,h1,h2⟩
  rw [hS l (by simp [hasL,h1])] at h2
  obtain ⟨cells',xs',_,h3,_⟩:=hb l _ h1
  exact ⟨_,xs',x,s,h3,h2⟩
 have hav:∀β,avOf σ1 L1 β->avOf σ L2 β:=fun β h=>h.imp (hlav β) id
 have havo:∀β,¬avo A σ L2 β->¬avo A σ1 L1 β:=fun β hn hh=>hn (hh.imp id (hav β))
 have hb1:BR w σ1 A L1:=by
  refine ⟨fun l cells hl=>?_,?_,?_,?_,hbr.fr.mono (Nat.le_refl _) (fun _ _ _ k=>k) (fun _ _ _ _=>rfl) fun _ β _ _=>hlav β⟩
  ·obtain ⟨cells',xs',e,h1,h2⟩:=hb l _ hl
   simp at e;subst e
   have hh:hasL L1 l=true:=by simp [hasL,hl]
   obtain ⟨e1,e2⟩:=h2.get
   rcases hbr.all _ xs' h1 with ⟨h3,h4⟩ | ⟨β,add,size,c,T,fr,hB⟩
   ·exact .inl ⟨by rw [hS l hh];exact h3,by subst h4;simpa using e1.symm⟩
   ·refine .inr ⟨β,add,size,c,T,fr,⟨by rw [hS l hh];exact hB.sig,hB.heap,hB.hsz,e1▸hB.fits,fun i y hy=>?_,hB.frs⟩⟩
    have hi:i<xs'.length:=by rw [e1];exact (List.getElem?_eq_some_iff.1 hy).1
    obtain ⟨v,h5,h6⟩:=hB.vals i _ (List.getElem?_eq_getElem hi)
    exact ⟨v,h5,h6.ren hS (fun _ _ _ h=>h) havo (e2 i _ y (List.getElem?_eq_getElem hi) hy)⟩
  ·intro l l' c c' β a s a' s' h1 h2 h3 h4
   rw [hS l (by simp [hasL,h1])] at h3
   rw [hS l' (by simp [hasL,h2])] at h4
   obtain ⟨_,_,_,h5,_⟩:=hb l _ h1
   obtain ⟨_,_,_,h6,_⟩:=hb l' _ h2
   exact hinj l l' (hdom l (by rw [h1];simp)) (hdom l' (by rw [h2];simp)) (hbr.inj _ _ _ _ β a s a' s' h5 h6 h3 h4)
  ·intro l x h1
   by_cases hh:hasL L1 l=true
   ·simp only [hasL,Option.isSome_iff_ne_none] at hh;exact hh
   ·simp [σ1,hh] at h1
  ·intro β hA
   obtain ⟨h1,h2⟩:=hbr.lo β hA
   exact ⟨h1,fun ha=>h2 (hav β ha)⟩
 refine (h A w σ1 cargs (by omega) (fun i y u hy hu=>?_) hb1 (fun g cells hgc=>Env.pureG hG hgc (hg g cells hgc) havo)).mono ?_
 ·have hi:i<xs.length:=by rw [hlen];exact (List.getElem?_eq_some_iff.1 hy).1
  exact (hv i _ u (List.getElem?_eq_getElem hi) hu).ren hS (fun _ _ _ h=>h) havo (ha i _ y (List.getElem?_eq_getElem hi) hy)
 ·rintro e w' ⟨r,c,L',σ1',rfl,⟨rfl,rfl⟩,hvr,hbr',hgr⟩
  let σ2:Sig:=⟨fun k=>if h:∃l,lget L' l≠none/\τ l=k then σ1' h.choose else none,σ1'.fam⟩
  have h2:∀l,lget L' l≠none->σ2 (τ l)=σ1' l:=by
   intro l hl
   have he:∃l',lget L' l'≠none/\τ l'=τ l:=⟨l,hl,rfl⟩
   have:he.choose=l:=hinj _ _ he.choose_spec.1 hl he.choose_spec.2
   simp only [σ2,he,dif_pos,this]
  have h2':∀l,hasL L' l=true->σ2 (τ l)=σ1' l:=fun l hl=>h2 l (by simpa [hasL,Option.isSome_iff_ne_none] using hl)
  have back:∀{k:Nat} {cells':List PV},lget LL2 k=some (some cells')->∃l cells,τ l=k/\lget L' l=some (some cells)/\cells'=PV.rns τ cells:=by
   intro k cells' hk
   obtain ⟨l,h3,rfl⟩:=hLL' k (by rw [hk];simp)
   cases h4:lget L' l with
   | none=>exact absurd h4 h3
   | some c=>
    have:=hLL l c h4
    rw [hk] at this
    cases c with
    | none=>simp at this
    | some cells=>simp at this;exact ⟨l,cells,rfl,h4,this⟩
  have hlav2:∀β,cG σ2 LL2 β->cG σ1' L' β:=by
   rintro β ⟨k,cells',a,s,h3,h4⟩
   obtain ⟨l,cells,rfl,h5,_⟩:=back h3
   rw [h2 l (by rw [h5];simp)] at h4
   exact ⟨l,cells,a,s,h5,h4⟩
  have hav2:∀β,avOf σ2 LL2 β->avOf σ1' L' β:=fun β h=>h.imp (hlav2 β) id
  have havo2:∀β,¬avo A σ1' L' β->¬avo A σ2 LL2 β:=fun β hn hh=>hn (hh.imp id (hav2 β))
  refine ⟨_,c,_,σ2,rfl,⟨rfl,rfl⟩,hvr.rnT h2' (fun _ _ _ h=>h) havo2 hV,⟨?_,?_,?_,?_,hbr'.fr.mono (Nat.le_refl _) (fun _ _ _ k=>k) (fun _ _ _ _=>rfl) fun _ β _ _=>hlav2 β⟩,⟨hgr.size,?_,?_,hgr.out,fun hK=>hgr.fam ?_⟩⟩
  ·intro k cells' hk
   obtain ⟨l,cells,rfl,h5,rfl⟩:=back hk
   have hl:=h2 l (by rw [h5];simp)
   rcases hbr'.all l cells h5 with ⟨h6,h7⟩ | ⟨β,add,size,cc,T,fr,hB⟩
   ·exact .inl ⟨by rw [hl];exact h6,by subst h7;rfl⟩
   ·refine .inr ⟨β,add,size,cc,T,fr,⟨by rw [hl];exact hB.sig,hB.heap,hB.hsz,by rw [lD];exact hB.fits,fun i y hy=>?_,hB.frs⟩⟩
    obtain ⟨x,h8,rfl⟩:=Ar hy
    obtain ⟨v,h9,h10⟩:=hB.vals i x h8
    exact ⟨v,h9,h10.rnT h2' (fun _ _ _ h=>h) havo2 (aK (hC l cells h5) h8)⟩
  ·intro k k' c1 c2 β a s a' s' h3 h4 h5 h6
   obtain ⟨l,d,rfl,h7,_⟩:=back h3
   obtain ⟨l',d',rfl,h8,_⟩:=back h4
   rw [h2 l (by rw [h7];simp)] at h5
   rw [h2 l' (by rw [h8];simp)] at h6
   rw [hbr'.inj l l' d d' β a s a' s' h7 h8 h5 h6]
  ·intro k x hk
   by_cases he:∃l,lget L' l≠none/\τ l=k
   ·obtain ⟨l,h3,rfl⟩:=he
    cases h4:lget L' l with
    | none=>exact absurd h4 h3
    | some c=>rw [hLL l c h4];simp
   ·simp only [σ2,he,dif_neg,not_false_eq_true] at hk;simp at hk
  ·intro β hA
   obtain ⟨h3,h4⟩:=hbr'.lo β hA
   exact ⟨h3,fun hh=>h4 (hav2 β hh)⟩
  ·intro k y hk hy
   obtain ⟨l,h3,rfl⟩:=hcov k hk
   rw [h2 l (hdom l h3)]
   exact hgr.sig l y h3 (by rw [hS l (hne h3)];exact hy)
  ·intro β hβ hn
   obtain ⟨h3,h4⟩:=hgr.keep β hβ fun hh=>hn (hav β hh)
   exact ⟨fun hh=>h3 (hav2 β hh),h4⟩
  ·obtain ⟨l,h3,h4⟩:=hcov _ hK
   have:=hk l h3 h4
   subst this;exact h3
end Go.SH
namespace Go.SH
mutual
def DV.rn (τ:Nat->Nat):DV->DV
 | .ptr l o=>.ptr (τ l) o
 | .lp l sz i k=>.lp (τ l) sz i k
 | .rw l sz o n co w=>.rw (τ l) sz o n co w
 | .fn f cs=>.fn f (DV.rns τ cs)
 | .iface t v=>.iface t (v.rn τ)
 | .agg cs=>.agg (DV.rns τ cs)
 | .tup cs=>.tup (DV.rns τ cs)
 | x=>x
def DV.rns (τ:Nat->Nat):List DV->List DV
 | []=>[]
 | x::r=>x.rn τ::DV.rns τ r
end
mutual
theorem EG (τ:Nat->Nat):∀(x:PV),pureF x=true->x.rn τ=x
 | .ptr _ _,h=>by simp [pureF] at h
 | .rw _ _ _ _ _,h=>by simp [pureF] at h
 | .rop cs _,h=>by simp only [PV.rn];rw [gy τ cs (by simpa [pureF] using h)]
 | .ro cs _ _,h=>by simp only [PV.rn];rw [gy τ cs (by simpa [pureF] using h)]
 | .fs _ cs _ _,h=>by simp only [PV.rn];rw [gy τ cs (by simpa [pureF] using h)]
 | .fn f cs,h=>by simp only [PV.rn];rw [gy τ cs (by simpa [pureF] using h)]
 | .iface t v,h=>by simp only [PV.rn];rw [EG τ v (by simpa [pureF] using h)]
 | .agg cs,h=>by simp only [PV.rn];rw [gy τ cs (by simpa [pureF] using h)]
 | .tup cs,h=>by simp only [PV.rn];rw [gy τ cs (by simpa [pureF] using h)]
 | .yld _ _ _ _ _ _,h=>by simp [pureF] at h
 | .dead,_=>rfl
 | .int _ _,_=>rfl
 | .bool _,_=>rfl
 | .str _,_=>rfl
 | .nilp,_=>rfl
 | .nils,_=>rfl
 | .nilf,_=>rfl
 | .raw _,_=>rfl
 | .nili,_=>rfl
theorem gy (τ:Nat->Nat):∀(xs:List PV),df xs=true->PV.rns τ xs=xs
 | [],_=>rfl
 | x::r,h=>by
  simp only [df,Bool.and_eq_true] at h
  simp only [PV.rns];rw [EG τ x h.1,gy τ r h.2]
end
mutual
theorem GP (τ:Nat->Nat):∀(d:DV),(d.rn τ).pv=d.pv.rn τ
 | .ptr _ _=>rfl
 | .lp _ _ _ _=>rfl
 | .rw _ _ _ _ _ _=>rfl
 | .fn f cs=>by simp only [DV.rn,DV.pv,PV.rn];rw [xb τ cs]
 | .iface t v=>by simp only [DV.rn,DV.pv,PV.rn];rw [GP τ v]
 | .agg cs=>by simp only [DV.rn,DV.pv,PV.rn];rw [xb τ cs]
 | .tup cs=>by simp only [DV.rn,DV.pv,PV.rn];rw [xb τ cs]
 | .dead=>rfl
 | .int _ _=>rfl
 | .by _=>rfl
 | .bool _=>rfl
 | .str _=>rfl
 | .nilp=>rfl
 | .nils=>rfl
 | .nilf=>rfl
 | .nili=>rfl
 | .ep t l i x k=>by simp only [DV.rn,DV.pv,PV.rn];rw [gy τ _ (fG l)]
 | .gp t l=>by simp only [DV.rn,DV.pv,PV.rn];rw [gy τ _ (fG l)]
 | .sl t l=>by simp only [DV.rn,DV.pv,PV.rn];rw [gy τ _ (fG l)]
 | .fsl q t l=>by simp only [DV.rn,DV.pv,PV.rn];rw [gy τ _ (fG l)]
theorem xb (τ:Nat->Nat):∀(ds:List DV),DV.pvs (DV.rns τ ds)=PV.rns τ (DV.pvs ds)
 | []=>rfl
 | d::r=>by simp only [DV.rns,DV.pvs,PV.rns];rw [GP τ d,xb τ r]
end
mutual
theorem GQ (τ:Nat->Nat):∀{d:DV},d.ok->(d.rn τ).ok
 | .ptr _ _,h=>h
 | .lp _ _ _ _,h=>h
 | .rw _ _ _ _ _ _,h=>h
 | .fn f cs,h=>xc τ (ds:=cs) h
 | .iface t v,h=>GQ τ (d:=v) h
 | .agg cs,h=>xc τ (ds:=cs) h
 | .tup cs,h=>xc τ (ds:=cs) h
 | .dead,h=>h
 | .int _ _,h=>h
 | .by _,h=>h
 | .bool _,h=>h
 | .str _,h=>h
 | .nilp,h=>h
 | .nils,h=>h
 | .nilf,h=>h
 | .nili,h=>h
 | .ep _ _ _ _ _,h=>h
 | .gp _ _,h=>h
 | .sl _ _,h=>h
 | .fsl _ _ _,h=>h
theorem xc (τ:Nat->Nat):∀{ds:List DV},DV.oks ds->DV.oks (DV.rns τ ds)
 | [],_=>trivial
 | d::r,h=>⟨GQ τ h.1,xc τ h.2⟩
end
theorem xd {τ:Nat->Nat}:∀{l:List DV} {i:Nat},(DV.rns τ l)[i]?=(l[i]?).map (DV.rn τ)
 | [],_=>by simp [DV.rns]
 | x::r,i=>by cases i with
  | zero=>simp [DV.rns]
  | succ i=>simp only [DV.rns,List.getElem?_cons_succ];exact xd
theorem B2 {τ:Nat->Nat}:∀{l:List DV},(DV.rns τ l).length=l.length
 | []=>rfl
 | x::r=>by simp [DV.rns,B2 (l:=r)]
def DC.rn (τ:Nat->Nat):DC->DC
 | .cs l=>.cs (DV.rns τ l)
 | c=>c
theorem HJ (τ:Nat->Nat):∀c:DC,(c.rn τ).pv=c.pv.map (PV.rns τ)
 | .gone=>rfl
 | .cs l=>by simp [DC.rn,DC.pv,xb]
 | .ls t l=>by simp only [DC.rn,DC.pv,Option.map_some];rw [gy τ _ (fG l)]
def fb:Sh->DV->Bool
 | .h t,d=>match t,d with
  | .ti _,.int _ _=>true
  | .tu,.by _=>true
  | .tb,.bool _=>true
  | .ts,.str _=>true
  | .tl _,.sl _ _=>true
  | .tf _ _,.fsl _ _ _=>true
  | _,_=>false
 | .k _,_=>true
 | .ptr _ _,_=>true
 | .rww _ _,.rw _ _ _ _ co w=>co.isNone&&w
 | .rwf _ _,.rw _ _ _ _ co w=>co.isNone && !w
 | _,_=>false
theorem I9 {t:ET} {d:DV} {x:t.T} (h:t.one [d]=some x) (he:fb (.h t) d=true):xv (t.cells x)=d:=by
 unfold ET.one at h
 split at h
 ·rename_i y hy
  simp at h;subst h
  cases t with
  | ti k=>obtain ⟨d',e,h1⟩:=cA hy;simp at e;subst e;exact (yr h1).symm
  | tu=>
   obtain ⟨d',e,h1⟩:=cA hy;simp at e;subst e
   unfold fb at he
   simp only at he
   split at he <;> simp_all [asY,ET.cells,xv]
  | tb=>obtain ⟨d',e,h1⟩:=cA hy;simp at e;subst e;exact (Bp h1).symm
  | ts=>obtain ⟨d',e,h1⟩:=cA hy;simp at e;subst e;exact (Bm h1).symm
  | tn=>simp [ET.un] at hy
  | tl t=>
   obtain ⟨d',e,h1⟩:=cA hy;simp at e;subst e
   rcases Bn h1 with ⟨rfl,rfl⟩ | rfl
   ·simp [fb] at he
   ·rfl
  | tf q t=>
   obtain ⟨d',e,h1⟩:=cA hy;simp at e;subst e
   rcases Bo h1 with ⟨rfl,rfl⟩ | rfl
   ·simp [fb] at he
   ·rfl
  | tp a c=>simp [fb] at he
 ·simp at h
theorem FQ {fr:Nat} {s:Sh} {d:DV} {g g':GS} (h:s.get fr d g=some g') (he:fb s d=true) {xs:List TV} (hx:g'.vs=g.vs++xs) {len:Nat->Nat} {rest:List TV} {τ:Nat->Nat} {S:Nat->Bool} (hm:yv τ S g') (hq:∀p∈g'.q,p.2=len p.1) :
  (s.mk len (xs++rest)).1.rn τ=d:=by
 cases s with
 | h t=>
  simp only [Sh.get] at h
  split at h
  ·rename_i x hxx
   simp at h;subst h
   have:xs=[⟨t,x⟩]:=by simpa [GS.put] using hx.symm
   subst this
   simp only [Sh.mk,List.cons_append]
   have e:=I9 hxx he
   rw [e]
   unfold fb at he
   simp only at he
   split at he <;> first | rfl | simp at he
  ·simp at h
 | k c=>
  simp only [Sh.get] at h
  split at h
  ·rename_i hc
   obtain ⟨rfl,h1,_⟩:=yl hc
   show c.rn τ=c
   unfold wD at hc
   split at hc <;> first | rfl | simp at hc
  ·simp at h
 | ptr l o=>
  simp only [Sh.get] at h
  split at h
  ·split at h
   ·rename_i e;subst e
    obtain ⟨_,_,_,h4⟩:=oO h
    show DV.ptr (τ l) o=_
    rw [(hm _ h4).1]
   ·simp at h
  ·simp at h
 | rww l sz=>
  simp only [Sh.get] at h
  split at h
  ·rename_i l' sz' off n co w
   split at h
   ·rename_i e;obtain ⟨rfl,rfl⟩:=e
    split at h
    ·rename_i g1 hg
     simp at h;subst h
     obtain ⟨_,_,_,h4⟩:=oO hg
     have e:=hq (l,n) (by simp)
     simp only [fb,Bool.and_eq_true,Option.isNone_iff_eq_none] at he
     obtain ⟨rfl,rfl⟩:=he
     show DV.rw (τ l) sz 0 (len l) none true=_
     rw [(hm _ h4).1,<-e]
    ·simp at h
   ·simp at h
  ·simp [fb] at he
  ·simp at h
 | rwf l sz=>
  simp only [Sh.get] at h
  split at h
  ·rename_i l' sz' off n co w
   split at h
   ·rename_i e;subst e
    split at h
    ·rename_i g1 hg
     simp at h;subst h
     obtain ⟨h1,_,_,h4⟩:=oO hg
     have:xs=[⟨.tn,off⟩,⟨.tn,n⟩]:=by
      have:g.vs++xs=g.vs++[⟨.tn,off⟩,⟨.tn,n⟩]:=by rw [<-hx];simp [GS.put,h1]
      exact List.append_cancel_left this
     subst this
     simp only [fb,Bool.and_eq_true,Option.isNone_iff_eq_none,Bool.not_eq_true'] at he
     obtain ⟨rfl,rfl⟩:=he
     show DV.rw (τ l) sz off n none false=_
     rw [(hm _ h4).1]
    ·simp at h
   ·simp at h
  ·simp at h
 | st t=>simp [fb] at he
 | fn f cs=>simp [fb] at he
 | iface t s=>simp [fb] at he
 | agg cs=>simp [fb] at he
 | tup cs=>simp [fb] at he
theorem xY {fr:Nat}:∀{ss:List Sh} {ds:List DV} {g g':GS},Sh.gets fr ss ds g=some g'->∀{xs:List TV},g'.vs=g.vs++xs->∀{len:Nat->Nat} {rest:List TV} {τ:Nat->Nat} {S:Nat->Bool},yv τ S g'->(∀p∈g'.q,p.2=len p.1) ->
  ∀(i:Nat) (s:Sh) (d:DV),ss[i]?=some s->ds[i]?=some d->fb s d=true->∃e,(Sh.mks len ss (xs++rest)).1[i]?=some e/\e.rn τ=d
 | [],ds,g,g',h,xs,hx,len,rest,τ,S,hm,hq,i,s,d,hs,hd,he=>by simp at hs
 | s::ss,ds,g,g',h,xs,hx,len,rest,τ,S,hm,hq,i,s',d',hs,hd,he=>by
  simp only [Sh.gets] at h
  split at h
  ·simp at h
  ·rename_i d ds
   split at h
   ·rename_i g1 h1
    obtain ⟨a1,ys,a2,a3,a4⟩:=va fr s h1
    obtain ⟨b1,zs,b2,b3,b4⟩:=mg fr ss h
    have e:xs=ys++zs:=by
     have:g.vs++xs=g.vs++(ys++zs):=by rw [<-hx,b2,a2,List.append_assoc]
     exact List.append_cancel_left this
    subst e
    have hm1:yv τ S g1:=fun p hp=>hm p (b1.1 p hp)
    have hq1:∀p∈g1.q,p.2=len p.1:=fun p hp=>hq p (b1.2 p hp)
    obtain ⟨c1,_,_⟩:=a4 len (zs++rest) τ S hm1 hq1
    simp only [Sh.mk'] at c1
    simp only [Sh.mks,List.append_assoc]
    cases i with
    | zero=>
     simp at hs hd;subst hs;subst hd
     exact ⟨_,rfl,FQ h1 he a2 hm1 hq1⟩
    | succ i=>
     simp only [List.getElem?_cons_succ] at hs hd ⊢
     rw [c1]
     exact xY h b2 hm hq i s' d' hs hd he
   ·simp at h
end Go.SH
namespace Go.SH
def nV (ar:List Sh) (ls:List (Nat×LSh)) (vs:List TV):Nat->Nat:=lenF (lenT ls (vs.drop (Sh.ns ar))) []
def inA (ar:List Sh) (ls:List (Nat×LSh)) (vs:List TV):List DV:=(Sh.mks (nV ar ls vs) ar vs).1
def inL (ar:List Sh) (ls:List (Nat×LSh)) (vs:List TV):DLb:=(mkL (nV ar ls vs) ls (Sh.mks (nV ar ls vs) ar vs).2).1
def inS (ar:List Sh) (ls:List (Nat×LSh)) (vs:List TV):St:=⟨[],inL ar ls vs,[],[]⟩
def resV (s:St):DV:=match lget s.al 0 with
 | some d=>d
 | none=>.dead
structure ICon (E:Env) where
 f:FuncId
 ar:List Sh
 ls:List (Nat×LSh)
 ot:Tm
 fn:HT (Sh.hss ar++hsL ls)->Option ot.T
 run:∀args w,(callFunc f args).run E.P w = .ok (.enter f args) w
 ok:∀a v,fn a=some v->eR E f (DV.pvs (inA ar ls (ai _ a))) (dlb (inL ar ls (ai _ a))) fun x L=>x=(resV (ot.app v (inS ar ls (ai _ a)))).pv/\L=dlb (ot.app v (inS ar ls (ai _ a))).L
def keys {α:Type} (L:List (Nat×α)):List Nat:=L.map (·.1)
def newN (fr:Nat) (old:List Nat):List Nat->Nat->List (Nat×Nat)
 | [],_=>[]
 | l::r,i=>match old.elem l with
  | true=>newN fr old r i
  | false=>(l,fr+i)::newN fr old r (i+1)
def rnL (τ:Nat->Nat) (L:DLb):DLb:=L.map fun p=>(τ p.1,p.2.rn τ)
def qr (k:Nat):LSh->Option DC->DL
 | .ls t,c=>match c with
  | some (.ls t' _)=>if t'=t then [] else [(k,none)]
  | _=>[(k,none)]
 | .cs ss,c=>match c with
  | some (.cs ds)=>go ss ds 0
  | _=>[(k,none)]
where
 go:List Sh->List DV->Nat->DL
  | s::ss,d::ds,i=>match fb s d with
   | true=>go ss ds (i+1)
   | false=>(k,some i)::go ss ds (i+1)
  | _,_,_=>[]
def uj:List Sh->List DV->Bool
 | s::ss,d::ds=>fb s d&&uj ss ds
 | _,_=>true
theorem ui:∀{ss:List Sh} {ds:List DV} {i:Nat} {s:Sh} {d:DV},uj ss ds=true->ss[i]?=some s->ds[i]?=some d->fb s d=true
 | [],_,i,s,d,_,h,_=>by simp at h
 | _::_,[],i,s,d,_,_,h=>by simp at h
 | s::ss,d::ds,i,s',d',h,hs,hd=>by
  simp only [uj,Bool.and_eq_true] at h
  cases i with
  | zero=>simp at hs hd;subst hs;subst hd;exact h.1
  | succ i=>exact ui h.2 (by simpa using hs) (by simpa using hd)
def DH:LSh->Option DC->Bool
 | .ls t,some (.ls t' _)=>decide (t'=t)
 | .cs ss,some (.cs ds)=>uj ss ds
 | _,_=>false
def r9 (τ:Nat->Nat) (L:DLb) (ls:List (Nat×LSh)) (ot:Tm):DL:=
 ot.labs.map (fun p=>(τ p.1,none))++ot.cups.map (fun c=>(τ c.1,some c.2.1))++ot.killL.map (fun l=>(τ l,none))++ls.flatMap fun p=>qr (τ p.1) p.2 (lget L (τ p.1))
def nU (τ:Nat->Nat) (L:DLb) (ls:List (Nat×LSh)) (ot:Tm) (l:Nat):Bool:=
 !(keys ot.labs).elem l && !ot.killL.elem l && !(ot.cups.any fun c=>decide (c.1=l))&&match lget ls l with
   | some s=>DH s (lget L (τ l))
   | none=>false
def wlI (τ:Nat->Nat) (L:DLb) (ls:List (Nat×LSh)) (ot:Tm) (oL:DLb):DLb:=rnL τ (oL.filter fun p=>!nU τ L ls ot p.1)
def xx:List Nat->Bool
 | []=>true
 | l::r=>!r.elem l&&xx r
def KP (ls:List (Nat×LSh)) (ot:Tm):Bool:=ot.cups.all fun c=>match lget ls c.1 with
 | some (.cs _)=>true
 | _=>false
def zN:DC->Bool
 | .gone=>true
 | .cs ds=>DV.labsL noF ds&&DV.noFL ds
 | .ls t _=>t.noF
def kK (S:Nat->Bool):DC->Bool
 | .gone=>true
 | .cs ds=>DV.labsLN S ds
 | .ls t _=>t.noF||S flab
def wkOK (wk:Bool) (hs:List Nat) (rl:DLb):Bool:=match wk with
 | false=>!hs.elem flab||hs.elem dN
 | true=>rl.all fun p=>hs.elem p.1||zN p.2
def D4 {E:Env} {R:Type} (wk:Bool) (rl:DLb) (fr:Nat) (con:ICon E) (f:FuncId) (args:List DV) (k:DV->DLb->DL->Option R):Option R:=
 if con.f=f/\con.ot.kOK=true/\con.ls.all (fun p=>p.2.kOK)=true/\KP con.ls con.ot=true then match Sh.gets fr con.ar args ⟨[],[],[]⟩ with
  | some g1=>match getL fr rl con.ls g1 with
   | some g=>reqs (nV con.ar con.ls g.vs) g.q (match pack (Sh.hss con.ar++hsL con.ls) g.vs with
    | some a=>(con.fn a).bind fun v=>
     let o:=con.ot.app v (inS con.ar con.ls g.vs)
     let m:=g.m++newN fr (keys con.ls) (keys o.L) 0
     let τ:=lk m
     if rO m=true/\(g.m.all fun p=>(keys con.ls).elem p.1)=true/\DV.labsLN (fun l=>((keys con.ls).map τ).elem l) args=true /\
       (con.ls.all fun p=>match lget rl (τ p.1) with
        | some .gone=>false
        | some c=>kK (fun l=>((keys con.ls).map τ).elem l) c
        | none=>false)=true /\
       (keys con.ls).all (fun l=>(keys o.L).elem l)=true/\((keys o.L).all fun l=>(keys o.L).all fun l'=>decide (τ l=τ l'->l=l'))=true /\
       (resV o).labsN (fun l=>(keys o.L).elem l)=true/\o.L.all (fun p=>kK (fun l=>(keys o.L).elem l) p.2)=true /\
       (keys o.L).all (fun l=>(keys con.ls).elem l || !(keys rl).elem (τ l))=true/\(keys con.ls).all (fun l=>(keys g.m).elem l)=true/\xx (keys o.L)=true/\xx (keys con.ls)=true/\(keys con.ls).all (fun l=>decide (τ l=dN->l=dN))=true /\
       wkOK wk ((keys con.ls).map τ) rl=true then
      k ((resV o).rn τ) (wlI τ rl con.ls con.ot o.L) (r9 τ rl con.ls con.ot) else none
    | none=>none)
   | none=>none
  | none=>none else none
theorem zJ {α:Type} {L:List (Nat×α)} {l:Nat}:(keys L).elem l=true<->lget L l≠none:=by
 constructor
 ·intro h
  simp only [keys,List.elem_eq_mem,decide_eq_true_eq] at h
  obtain ⟨p,hp,rfl⟩:=List.mem_map.1 h
  intro hn
  clear h
  induction L with
  | nil=>simp at hp
  | cons q r ih=>
   obtain ⟨j,x⟩:=q
   rw [lget] at hn
   split at hn
   ·simp at hn
   ·rename_i hj
    rcases List.mem_cons.1 hp with rfl | hp
    ·exact hj rfl
    ·exact ih hp hn
 ·intro h
  cases hc:lget L l with
  | none=>exact absurd hc h
  | some c=>simp only [keys,List.elem_eq_mem,decide_eq_true_eq];exact List.mem_map.2 ⟨_,aw hc,rfl⟩
theorem AE {τ:Nat->Nat}:∀{L:DLb} {l:Nat},(∀l'∈keys L,τ l'=τ l->l'=l)->lget (rnL τ L) (τ l)=(lget L l).map (DC.rn τ)
 | [],l,_=>rfl
 | (k,c)::r,l,h=>by
  simp only [rnL,List.map_cons,lget]
  by_cases e:k=l
  ·subst e;simp
  ·rw [if_neg (fun e2=>e (h k (by simp [keys]) e2)),if_neg e]
   exact AE (L:=r) fun l' hl'=>h l' (by simp only [keys,List.map_cons,List.mem_cons];exact .inr hl')
theorem jV {τ:Nat->Nat}:∀{L:DLb} {k:Nat},lget (rnL τ L) k≠none->∃l∈keys L,τ l=k
 | [],k,h=>by simp [rnL,lget] at h
 | (j,c)::r,k,h=>by
  simp only [rnL,List.map_cons,lget] at h
  by_cases e:τ j=k
  ·exact ⟨j,by simp [keys],e⟩
  ·rw [if_neg e] at h
   obtain ⟨l,h1,h2⟩:=jV (L:=r) h
   exact ⟨l,by simp only [keys,List.map_cons,List.mem_cons];exact .inr h1,h2⟩
theorem Cs {L:DLb} {f:Nat->Bool} (l:Nat):lget (L.filter fun p=>f p.1) l=if f l=true then lget L l else none:=by
 induction L with
 | nil=>simp [lget]
 | cons p r ih=>
  obtain ⟨k,c⟩:=p
  simp only [List.filter_cons]
  split
  ·rename_i hk
   simp only [lget]
   by_cases e:k=l
   ·subst e;simp [hk]
   ·rw [if_neg e,if_neg e];exact ih
  ·rename_i hk
   rw [ih]
   simp only [lget]
   by_cases e:k=l
   ·subst e;simp [hk]
   ·rw [if_neg e]
theorem Cw {k:Nat} {ss:List Sh} {ds:List DV}:∀{j i:Nat},(k,some (j+i)) ∉ qr.go k ss ds j->∀{s d},ss[i]?=some s->ds[i]?=some d->fb s d=true:=by
 induction ss generalizing ds with
 | nil=>intro j i _ s d hs;simp at hs
 | cons s ss ih=>
  intro j i h s' d' hs hd
  cases ds with
  | nil=>simp at hd
  | cons d ds=>
   simp only [qr.go] at h
   cases i with
   | zero=>
    simp at hs hd;subst hs;subst hd
    split at h
    ·assumption
    ·simp at h
   | succ i=>
    simp only [List.getElem?_cons_succ] at hs hd
    refine ih (j:=j+1) (i:=i) (ds:=ds) ?_ hs hd
    rw [show j+1+i=j+(i+1) from by omega]
    split at h
    ·exact h
    ·simp at h;exact h
theorem g9 {α:Type}:∀{L:List (Nat×α)},xx (keys L)=true->∀{l:Nat} {c:α},(l,c)∈L->lget L l=some c
 | [],_,l,c,h=>by simp at h
 | (k,x)::r,hn,l,c,h=>by
  simp only [keys,List.map_cons,xx,Bool.and_eq_true,Bool.not_eq_true'] at hn
  rcases List.mem_cons.1 h with e | h
  ·simp at e;obtain ⟨rfl,rfl⟩:=e;simp [lget]
  ·have h1:k≠l:=by
    intro e;rw [e] at hn
    have:l∈r.map (·.1):=List.mem_map.2 ⟨_,h,rfl⟩
    have h2:=hn.1
    simp only [List.elem_eq_mem,decide_eq_false_iff_not] at h2
    exact h2 this
   rw [lget,if_neg h1]
   exact g9 hn.2 h
theorem fZ (L:DLb):hasL (dlb L)=fun l=>(keys L).elem l:=by
 funext l
 cases h:(keys L).elem l with
 | true=>
  have:=zJ.1 h
  simp only [hasL,Option.isSome_iff_ne_none,aB]
  cases hc:lget L l with
  | none=>exact absurd hc this
  | some c=>simp
 | false=>
  cases hc:lget L l with
  | none=>simp [hasL,aB,hc]
  | some c=>
   have:(keys L).elem l=true:=zJ.2 (by rw [hc];simp)
   rw [this] at h;simp at h
def LabX (τ:Nat->Nat) (L:DLb) (l:Nat) (s:LSh) (c:DC):Prop:=match s with
 | .ls t=>∃y,c = .ls t y/\∀x,lget L (τ l)=some (.ls t x)->y=x
 | .cs ss=>∃ds es,lget L (τ l)=some (.cs ds)/\c = .cs es/\es.length=ds.length/\ss.length=ds.length/\∀(i:Nat) (s:Sh) (d:DV),ss[i]?=some s->ds[i]?=some d->fb s d=true->∃e,es[i]?=some e/\e.rn τ=d
theorem xX {fr:Nat}:∀{ss:List Sh} {ds:List DV} {g g':GS},Sh.gets fr ss ds g=some g'->ss.length=ds.length
 | [],ds,g,g',h=>by
  simp only [Sh.gets] at h
  split at h
  ·rfl
  ·simp at h
 | s::ss,ds,g,g',h=>by
  simp only [Sh.gets] at h
  split at h
  ·simp at h
  ·split at h
   ·simp [xX h]
   ·simp at h
theorem wv (len:Nat->Nat):∀(ss:List Sh) (vs:List TV),(Sh.mks len ss vs).1.length=ss.length
 | [],_=>rfl
 | s::ss,vs=>by simp only [Sh.mks,List.length_cons];rw [wv len ss]
theorem Ml {fr:Nat} {L:DLb}:∀{s:LSh} {l:Nat} {g g':GS},s.get fr (lget L l) g=some g'->∀{xs:List TV},g'.vs=g.vs++xs->∀{len:Nat->Nat} {rest:List TV} {τ:Nat->Nat} {S:Nat->Bool} {k:Nat},Fin τ S len g'->τ k=l ->
  LabX τ L k s (s.mk len (xs++rest)).1
 | .ls t,l,g,g',h,xs,hx,len,rest,τ,S,k,hf,hk=>by
  simp only [LSh.get] at h
  split at h
  ·rename_i t' ls hl
   split at h
   ·rename_i e;subst e
    simp at h;subst h
    have:xs=[⟨.tl t',ls⟩]:=by simpa [GS.put] using hx.symm
    subst this
    exact ⟨ls,rfl,fun x hx=>by rw [hk,hl] at hx;simpa using hx⟩
   ·simp at h
  ·rename_i cs hl
   split at h
   ·rename_i ls hal
    simp at h;subst h
    have:xs=[⟨.tl t,ls⟩]:=by simpa [GS.put] using hx.symm
    subst this
    exact ⟨ls,rfl,fun x hx=>by rw [hk,hl] at hx;simp at hx⟩
   ·simp at h
  ·simp at h
  ·rename_i hl
   simp at h;subst h
   have:xs=[⟨.tl t,[]⟩]:=by simpa [GS.put] using hx.symm
   subst this
   exact ⟨[],rfl,fun x hx=>by rw [hk,hl] at hx;simp at hx⟩
 | .cs ss,l,g,g',h,xs,hx,len,rest,τ,S,k,hf,hk=>by
  simp only [LSh.get] at h
  split at h
  ·rename_i ds hl
   refine ⟨ds,_,by rw [hk];exact hl,rfl,?_,xX h,fun i s d hs hd he=>xY h hx hf.m hf.q i s d hs hd he⟩
   rw [wv,xX h]
  ·simp at h
theorem Hs {fr:Nat} {L:DLb}:∀{sl:List (Nat×LSh)} {g g':GS},getL fr L sl g=some g'->∀{xs:List TV},g'.vs=g.vs++xs->∀{len:Nat->Nat} {rest:List TV} {τ:Nat->Nat} {S:Nat->Bool},Fin τ S len g' ->
  ∀p∈(mkL len sl (xs++rest)).1,∃s,(p.1,s)∈sl/\LabX τ L p.1 s p.2
 | [],g,g',h,xs,hx,len,rest,τ,S,hf,p,hp=>by simp [mkL] at hp
 | (l,s)::r,g,g',h,xs,hx,len,rest,τ,S,hf,p,hp=>by
  simp only [getL] at h
  split at h
  ·rename_i g0 h0
   split at h
   ·rename_i g1 h1
    obtain ⟨l1,l2,l3,l4⟩:=oO h0
    obtain ⟨a1,ys,a2,a3,a4⟩:=Ig h1
    obtain ⟨b1,zs,b2,b4⟩:=wy h
    have e:xs=ys++zs:=by
     have:g.vs++xs=g.vs++(ys++zs):=by rw [<-hx,b2,a2,l1,List.append_assoc]
     exact List.append_cancel_left this
    subst e
    have hf1:=hf.sub b1
    have hf0:=hf1.sub a1
    have ht:=(hf0.m _ l4).1
    obtain ⟨c1,c2⟩:=a4 (zs++rest) hf1 ht
    simp only [mkL,List.append_assoc,c1] at hp
    rcases List.mem_cons.1 hp with rfl | hp
    ·exact ⟨s,by simp,Ml h1 a2 hf1 ht⟩
    ·obtain ⟨s',h2,h3⟩:=Hs h b2 hf p hp
     exact ⟨s',List.mem_cons_of_mem _ h2,h3⟩
   ·simp at h
  ·simp at h
end Go.SH
namespace Go.SH
inductive Task where
 | code (n:Nat) (c:Code) (al:Al) (m:Tr) (nx lo:Nat)
 | ops (n:Nat) (ops:Array Oper) (rest:List Oper) (al:Al) (m:Tr) (nx lo:Nat)
 | draw (n:Nat) (ops:Array Oper) (rest:List Oper) (fs:List Fp) (al:Al) (m:Tr) (nx lo:Nat)
 | fn (f:FuncId) (args:List PV) (m:Tr) (nx lo:Nat)
inductive Outc where
 | st (e:Exit) (al:Al) (m:Tr) (nx:Nat)
 | ret (v:PV) (m:Tr) (nx:Nat)
def of1 (G:List (Nat×List PV)) (al:Al) (m:Tr) (x:Operand):Lb:=
 match xev G al x with
 | some (.ptr l _)=>match tget m l with | some cs=>[(l,some cs)] | none=>[]
 | some (.rw l _ _ _ _)=>match tget m l with | some cs=>[(l,some cs)] | none=>[]
 | _=>[]
def rlOf (G:List (Nat×List PV)) (al:Al) (m:Tr) (o:Op):Lb:=
 match o with
 | .load _ p=>of1 G al m p
 | .store _ p _=>of1 G al m p
 | .slice _ x _ _ _=>of1 G al m x
 | .convert _ _ x=>of1 G al m x
 | .call ⟨.builtin .append,⟨[x,y]⟩,_⟩=>of1 G al m x++of1 G al m y
 | .call ⟨.builtin .copy,⟨[x,y]⟩,_⟩=>of1 G al m x++of1 G al m y
 | _=>[]
def wlOK (rl:Lb) (nx lo:Nat) (wl:Lb):Bool:=wl.all fun p=>Nat.blt nx maxL&&(p.1.beq nx||(hasL rl p.1&&Nat.ble lo p.1))
def Gj (P:Program) (al:Al) (m:Tr):List ResultVar->Option (List PV)
 | []=>some []
 | .tmp t::r=>match lget al t,Gj P al m r with
  | some x,some xs=>some (x::xs)
  | _,_=>none
 | .cell s T::r=>match lget al s,Gj P al m r with
  | some (.ptr l off),some xs=>match tget m l with
   | some cs=>match kL P T [(l,some cs)] (.ptr l off) with
    | some x=>some (x::xs)
    | none=>none
   | none=>none
  | _,_=>none
mutual
def labs:PV->List Nat
 | .ptr l _=>[l]
 | .rw l _ _ _ _=>[l]
 | .rop cells _=>labsL cells
 | .ro cells _ _=>labsL cells
 | .fn _ caps=>labsL caps
 | .iface _ v=>labs v
 | .agg cells=>labsL cells
 | .tup vs=>labsL vs
 | .yld _ _ _ _ _ vs=>ylab::labsL vs
 | .fs _ cells _ _=>flab::labsL cells
 | _=>[]
def labsL:List PV->List Nat
 | []=>[]
 | x::xs=>labs x++labsL xs
end
def q9 (m:Tr):Nat->List Nat->Lb->Option Lb
 | 0,_,_=>none
 | _+1,[],acc=>some acc
 | f+1,l::r,acc=>bif hasL acc l then q9 m f r acc else match tget m l with
  | some cs=>q9 m f (labsL cs++r) ((l,some cs)::acc)
  | none=>none
def dG:List Operand->List Nat
 | []=>[]
 | .tmp t::r=>t::dG r
 | _::r=>dG r
def jS:Op->List Operand
 | .move x=>[x]
 | .assign x=>[x]
 | .pick c a b=>[c,a,b]
 | .binOp _ _ x y _=>[x,y]
 | .unOp _ _ x=>[x]
 | .convert _ _ x=>[x]
 | .load _ p=>[p]
 | .store _ p v=>[p,v]
 | .box _ x=>[x]
 | .build _ ps=>ps.toList.map (·.2)
 | .buildSlice _ _ ps=>ps.toList.map (·.2)
 | .fieldAddr _ x _=>[x]
 | .field _ x _=>[x]
 | .extract x _=>[x]
 | .makeFunc _ first caps=>first.toList++caps.toList
 | .makeInterface _ x=>[x]
 | .nilCheck x=>[x]
 | .indexAddr _ x i=>[x,i]
 | .index _ x i=>[x,i]
 | .slice _ x lo hi _=>x::(lo.toList++hi.toList)
 | .makeSlice _ x y=>[x,y]
 | .call ⟨.value f,args,_⟩=>f::args.toList
 | .call ⟨_,args,_⟩=>args.toList
 | _=>[]
def raOf (al:Al):List Nat->Al
 | []=>[]
 | t::r=>match lget al t with | some x=>(t,x)::raOf al r | none=>raOf al r
def gdOf (ops:Array Oper) (al:Al) (o:Oper):Bool:=match o.guard with
 | some (j,_)=>match (ops[j]?).bind (·.dst) with
  | some d=>match lget al d with | some .dead=>true | _=>false
  | none=>false
 | none=>false
def oK (acc:List Nat):List Nat->Nat
 | []=>0
 | k::r=>Nat.lor (Nat.lor (Nat.shiftLeft 1 k) (acc.getD k 0)) (oK acc r)
def o9:List Oper->List Nat->List Nat
 | [],acc=>acc
 | o::r,acc=>o9 r (acc++[oK acc (jh o)])
def bitB (m i:Nat):Bool:=Nat.beq (Nat.mod (Nat.shiftRight m i) 2) 1
def hasN (l:List Nat) (x:Nat):Bool:=l.any fun y=>Nat.beq y x
def pN (a b:List Nat):Bool:=a.any (hasN b)
def rdS (ops:Array Oper) (o:Oper):List Nat:=(match pR ops o with | some d=>[d] | none=>[])++dG (jS o.op)
def wrS (o:Oper):List Nat:=match o.dst with | some d=>[d] | none=>[]
def xu (mk:List Nat) (j:Nat) (rj wj:List Nat):List (List Nat×List Nat)->Nat->Bool
 | [],_=>true
 | (ri,wi)::r,i=>(bitB (mk.getD j 0) i || !(pN wi (rj++wj)||pN wj ri))&&xu mk j rj wj r (i+1)
def allS (mk:List Nat):List (List Nat×List Nat)->List (List Nat×List Nat)->Nat->Bool
 | _,[],_=>true
 | pre,(rj,wj)::r,j=>xu mk j rj wj pre 0&&allS mk (pre++[(rj,wj)]) r (j+1)
def AL (ops:Array Oper):Bool:=allS (o9 ops.toList []) [] (ops.toList.map fun o=>(rdS ops o,wrS o)) 0
def rdL (f:Fp):List Nat:=if f.run then f.rl.map (·.1)++fnew f else []
def wrL (f:Fp):List Nat:=if f.run then f.wl.map (·.1) else []
def AM (ops:Array Oper) (fs:List Fp):Bool:=allS (o9 ops.toList []) [] (fs.map fun f=>(rdL f,wrL f)) 0
def HG (n:Nat) (ops:Array Oper):Bool:=(ops.toList.all fun o=>lB n o.dst&&(match o.guard with | some _=>(pR ops o).isSome | none=>true))&&ops.toList.all fun o=>notD o.op
def pureL (fs:List Fp):Bool:=fs.all fun f=>match f.wl with | []=>true | _=>false
def tE (fs:List Fp):Bool:=fs.all fun f=>rP f.wl
def Mb:Exit->Bool
 | .normal=>true
 | .ret=>true
 | _=>false
def nxt (nx:Nat):Lb->Nat
 | []=>nx
 | _=>nx+1
def fresh (nx:Nat) (rl:Lb):Lb:=rl.filter fun p=>Nat.ble nx p.1
def tree (rl:Lb):Tr:=tupd .nil rl
def Cu (rl:Lb):List Nat:=rl.map (·.1)
def lE:Code->Bool
 | .seq x y=>lE x&&lE y
 | .cond _ x y=>lE x&&lE y
 | .block _ c=>lE c
 | .loop c=>lE c
 | .scope c=>lE c
 | .rangeFunc _ _ _ _=>false
 | _=>true
def J8 (ps:List Nat) (xs:List PV) (ts:List Nat) (vs:List PV):Al:=(ps.zip xs).foldl (fun al p=>p::al) (ts.zip vs)
def uni (al:Al):Al:=raOf al (al.map (·.1))
def Dg (al:Al):List PV:=al.map (·.2)
def KJ (al:Al):List Nat:=al.map (·.1)
def yOK (m:Nat) (ps:List Nat) (xs:List PV) (ts:List Nat) (vs:List PV) (assign body:Code):Bool:=
 Nat.beq ps.length xs.length&&(Nat.beq ts.length vs.length&&(ps.all (fun p=>Nat.blt p m)&&(lE assign&&lE body)))
def Gi (ih:Task->Option Outc) (n:Nat) (body:Code) (lo:Nat):Nat->Code->Al->Tr->Nat->Option Outc
 | 0,_,_,_,_=>none
 | f+1,c,al,m,nx=>match ih (.code n c al m nx lo) with
  | some (.st e al' m' nx')=>match e with
   | .goto l=>match findLabel body l with
    | some rest=>Gi ih n body lo f rest al' m' nx'
    | none=>some (.st (.goto l) al' m' nx')
   | e=>some (.st e al' m' nx')
  | _=>none
def Mi (P:Program) (G:List (Nat×List PV)) (ih:Task->Option Outc):Task->Option Outc
 | .code n c al m nx lo=>match c with
  | .skip=>some (.st .normal al m nx)
  | .seq x y=>match ih (.code n x al m nx lo) with
   | some (.st e al' m' nx')=>match e with
    | .normal=>ih (.code n y al' m' nx' lo)
    | e=>some (.st e al' m' nx')
   | _=>none
  | .cond (.tmp t) x y=>match lget al t with
   | some (.bool b)=>bif b then ih (.code n x al m nx lo) else ih (.code n y al m nx lo)
   | _=>none
  | .cond (.const (.bool b)) x y=>bif b then ih (.code n x al m nx lo) else ih (.code n y al m nx lo)
  | .block i c=>match ih (.code n c al m nx lo) with
   | some (.st e al' m' nx')=>match e with
    | .exit j=>bif j.beq i then some (.st .normal al' m' nx') else some (.st (.exit j) al' m' nx')
    | e=>some (.st e al' m' nx')
   | _=>none
  | .loop c=>match ih (.code n c al m nx lo) with
   | some (.st e al' m' nx')=>match e with
    | .normal=>ih (.code n (.loop c) (raOf al' (al.map (·.1))) m' nx' lo)
    | e=>some (.st e al' m' nx')
   | _=>none
  | .exit i=>some (.st (.exit i) al m nx)
  | .goto i=>some (.st (.goto i) al m nx)
  | .scope c=>Gi ih n c lo 64 c al m nx
  | .ret=>some (.st .ret al m nx)
  | .label _=>some (.st .normal al m nx)
  | .rangeFunc g ps assign body=>match xev G al g with
   | some (.fn f caps)=>match q9 m 100000 (labsL (Dg (uni al)++caps)) [] with
    | some rl=>match ih (.fn f (.yld n ps.toList assign body (KJ (uni al)) (Dg (uni al))::caps) (tree rl) nx lo) with
     | some (.ret v m' nx')=>match q9 m' 100000 (labs v++Cu rl) [] with
      | some rl'=>some (.st .normal al (tupd m rl') nx')
      | none=>none
     | _=>none
    | none=>none
   | _=>none
  | .region _ ops false=>ih (.ops n ops ops.toList al m nx lo)
  | .region _ ops true=>ih (.draw n ops ops.toList [] al m nx lo)
  | _=>none
 | .ops n ops rest al m nx lo=>match rest with
  | []=>some (.st .normal al m nx)
  | o::rest=>match iL ops al o with
   | some true=>match o.op with
    | .call ⟨.value fo,args,_⟩=>match xev G al fo,xevs G al args.toList with
     | some (.fn f caps),some xs=>match ih (.fn f (xs++caps) m nx lo) with
      | some (.ret v m' nx')=>bif lB n o.dst then ih (.ops n ops rest (oset o.dst v al) m' nx' lo) else none
      | _=>none
     | some (.yld k ps assign body ts vs),some xs=>match q9 m 100000 (labsL (vs++xs)) [] with
      | some rl=>bif yOK k ps xs ts vs assign body&&lB n o.dst then (match ih (.code k assign (J8 ps xs ts vs) (tree rl) nx lo) with
       | some (.st .normal al1 m1 nx1)=>match q9 m1 100000 (labsL (Dg (uni al1))++Cu rl) [] with
        | some rl1=>match ih (.code k body (uni al1) (tree rl1) nx1 lo) with
         | some (.st .normal al2 m2 nx2)=>match q9 m2 100000 (Cu rl) [] with
          | some rl2=>ih (.ops n ops rest (oset o.dst (.bool true) al) (tupd m rl2) nx2 lo)
          | none=>none
         | _=>none
        | none=>none
       | _=>none) else none
      | none=>none
     | _,_=>none
    | op=>match xop2 P G o al (rlOf G al m op) nx with
     | some (x,wl)=>bif lB n o.dst&&wlOK (rlOf G al m op) nx lo wl then ih (.ops n ops rest (oset o.dst x al) (tupd m wl) (nxt nx wl) lo) else none
     | none=>none
   | some false=>bif lB n o.dst then ih (.ops n ops rest (oset o.dst .dead al) m nx lo) else none
   | none=>none
 | .draw n ops rest fs al m nx lo=>match rest with
  | []=>bif wB ops&&(AL ops&&HG n ops) then (bif pureL fs||(tE fs&&AM ops fs.reverse) then some (.st .normal al m nx) else none) else none
  | o::rest=>match iL ops al o with
   | some true=>match o.op with
    | .call ⟨.value fo,args,_⟩=>match xev G al fo,xevs G al args.toList with
     | some (.fn f caps),some xs=>match q9 m 100000 (labsL (xs++caps)) [] with
      | some rl=>match ih (.fn f (xs++caps) (tree rl) nx nx) with
       | some (.ret v m' nx')=>match q9 m' 100000 (labs v++Cu rl) [] with
        | some rl'=>ih (.draw n ops rest (⟨raOf al (dG (jS o.op)),rl,v,fresh nx rl',true,false⟩::fs) (oset o.dst v al) (tupd m (fresh nx rl')) nx' lo)
        | none=>none
       | _=>match ih (.fn f (xs++caps) (tree rl) nx lo) with
        | some (.ret v m' nx')=>match q9 m' 100000 (labs v++Cu rl) [] with
         | some rl'=>ih (.draw n ops rest (⟨raOf al (dG (jS o.op)),rl,v,rl',true,false⟩::fs) (oset o.dst v al) (tupd m rl') nx' lo)
         | none=>none
        | _=>none
      | none=>none
     | _,_=>none
    | op=>match xop2 P G o (raOf al (dG (jS op))) (rlOf G (raOf al (dG (jS op))) m op) nx with
     | some (x,wl)=>bif wlOK (rlOf G (raOf al (dG (jS op))) m op) nx lo wl then
       ih (.draw n ops rest (⟨raOf al (dG (jS op)),rlOf G (raOf al (dG (jS op))) m op,x,wl,true,false⟩::fs) (oset o.dst x al) (tupd m wl) (nxt nx wl) lo) else none
     | none=>none
   | some false=>ih (.draw n ops rest (⟨[],[],.dead,[],false,gdOf ops al o⟩::fs) (oset o.dst .dead al) m nx lo)
   | none=>none
 | .fn f args m nx lo=>match P.funcs[f]? with
  | some fn=>match fn.body with
   | some c=>bif Nat.ble args.length fn.ntmps then (match ih (.code fn.ntmps c (mH args 0) m nx lo) with
    | some (.st e al' m' nx')=>bif Mb e then (match Gj P al' m' fn.results.toList with
     | some xs=>some (.ret (rtup xs) m' nx')
     | none=>none) else none
    | _=>none) else none
   | none=>none
  | none=>none
def X (P:Program) (G:List (Nat×List PV)):Nat->Task->Option Outc
 | 0=>fun _=>none
 | k+1=>Mi P G (X P G k)
end Go.SH
namespace Go.SH
section
variable {E:Env} {K:Nat->Prop} {n:Nat} {al:Al} {L:Lb} {Q:Exit->Al->Lb->Prop}
theorem BP {P:Program} {b:Frame} {a:Act} {k:List Item} {cs:List Frame} {w:World} {c:Code}:step P (lone (b.atR a (.code (.scope c)::k)) cs w) = .next (lone (b.atR a (.code c :: .inScope c::k)) cs w):=
 step_lone_go (by simp [stepG,stepG.exec,Frame.atR])
theorem yB {P:Program} {b:Frame} {a:Act} {k:List Item} {cs:List Frame} {w:World} {c:Code}:step P (lone (b.atR a (.inScope c::k)) cs w) = .next (lone (b.atR a k) cs w):=
 step_lone_go (by simp [stepG,stepG.exec,Frame.atR])
def AWsc (E:Env) (K:Nat->Prop) (n:Nat) (body c:Code) (Q:Exit->Al->Lb->Prop) (al:Al) (L:Lb):Prop:=
 ∀A w σ a,Rel E A w σ al L a->a.tmps.size=n->∀b k cs,b.roundOf=(fen E.ro).round->(fen E.ro).fn b.fn->(fen E.ro).room (cs.length+1+0)->∃e a' w',Post E K A w σ L n Q e a' w'/\ArrivesIn (Machine.fenced E.P (fen E.ro)) E.P (lone (b.atR a (.code c :: .inScope body::k)) cs w) b k cs e a' w'
theorem Ip {c:Code} (h:AWsc E K n c c Q al L):AW E K n (.scope c) Q al L:=by
 intro A w σ a r t b k cs hro hb hrm
 obtain ⟨e,a',w',hq,harr⟩:=h A w σ a r t b k cs hro hb hrm
 exact ⟨e,a',w',hq,.of_steps (.one (fenced_calm hb hrm rfl) BP) harr⟩
def GN (E:Env) (K:Nat->Prop) (n:Nat) (body:Code) (Q:Exit->Al->Lb->Prop):Exit->Al->Lb->Prop
 | .goto l,al,L=>match findLabel body l with | some rest=>AWsc E K n body rest Q al L | none=>Q (.goto l) al L
 | e,al,L=>Q e al L
theorem Im {body c:Code} (h:AW E K n c (GN E K n body Q) al L):AWsc E K n body c Q al L:=by
 intro A w σ a r t b k cs hro hb hrm
 obtain ⟨e,a₁,w₁,⟨al₁,L₁,σ₁,q,r₁,g₁,t₁⟩,harr⟩:=h A w σ a r t b (.inScope body::k) cs hro hb hrm
 cases e with
 | normal=>exact ⟨.normal,a₁,w₁,⟨al₁,L₁,σ₁,q,r₁,g₁,t₁⟩,StepsIn.trans harr (.one (fenced_calm hb hrm rfl) yB)⟩
 | exit id=>exact ⟨_,a₁,w₁,⟨al₁,L₁,σ₁,q,r₁,g₁,t₁⟩,fun k' hk=>harr.1 k' (by simp [exitTo,hk]),fun hr hk=>harr.2 hr (by simp [exitTo,hk])⟩
 | goto l=>
  simp only [GN] at q
  cases hf:findLabel body l with
  | none=>
   rw [hf] at q
   have hg:gotoIn l (.inScope body::k)=gotoIn l k:=by simp [gotoIn,hf]
   exact ⟨_,a₁,w₁,⟨al₁,L₁,σ₁,q,r₁,g₁,t₁⟩,fun k' hk=>harr.1 k' (by rw [hg];exact hk),fun hr hk=>harr.2 hr (by rw [hg];exact hk)⟩
  | some rest=>
   rw [hf] at q
   have hg:gotoIn l (.inScope body::k)=some (.code rest :: .inScope body::k):=by simp [gotoIn,hf]
   obtain ⟨e₂,a₂,w₂,hq₂,harr₂⟩:=q A w₁ σ₁ a₁ r₁ t₁ b k cs hro hb hrm
   exact ⟨e₂,a₂,w₂,Post.trans g₁ hq₂,.of_steps (harr.1 _ hg) harr₂⟩
 | ret=>exact ⟨_,a₁,w₁,⟨al₁,L₁,σ₁,q,r₁,g₁,t₁⟩,harr⟩
 | panic ch=>exact ⟨_,a₁,w₁,⟨al₁,L₁,σ₁,q,r₁,g₁,t₁⟩,harr⟩
 | outgrown=>exact ⟨_,a₁,w₁,⟨al₁,L₁,σ₁,q,r₁,g₁,t₁⟩,harr⟩
theorem sr {S:Nat->Bool} {x:PV} (h:j9 x=true):aC S x=true:=by
 have:∀x:PV,aC (fun _=>false) x=true->aC S x=true:=by
  intro x
  apply PV.rec (motive_1:=fun x=>aC (fun _=>false) x=true->aC S x=true) (motive_2:=fun xs=>aq (fun _=>false) xs=true->aq S xs=true)
  all_goals intros
  all_goals simp_all [aC,aq]
 exact this x h
theorem Rel.growN {E:Env} (hG:GOK E) {A K:Nat->Prop} {w w':World} {σ σ':Sig} {al:Al} {L L':Lb} {a:Act} (h:Rel E A w σ al L a) (hnf:∀t x,lget al t=some x->aC noF x=true) (hb:BR w' σ' A L') (hg:Grow K w σ L w' σ' L') (hK:∀l,l≠dN->K l):Rel E A w' σ' al L' a:=
 ⟨fun t x hx=>let ⟨v,h1,h2⟩:=h.tmps t x hx;⟨v,h1,h2.growN (hnf t x hx) hg hK⟩,hb,fun g cells hc=>(h.globals g cells hc).growN (sr (by simp [j9,aC,hG g cells hc])) hg hK,h.nodefer.grow h.blocks hg⟩
end
theorem mK.useG {E:Env} {T:World->List Value->(Ending->World->Prop)->Prop} (hT:∀w cargs (R R':Ending->World->Prop),(∀e w',R e w'->R' e w')->T w cargs R->T w cargs R') {args:List PV} {v:PV} {rl LL wl:Lb} (hG:GOK E) (h:mK E T args rl fun r L'=>r=v/\L'=LL)
  (hw:aq (hasL rl) args=true) (hc:∀l cells,lget rl l=some (some cells)->aq (hasL rl) cells=true)
  (hkeys:∀l,lget rl l≠none->lget LL l≠none) (hnew:∀l y,lget LL l=some y->lget rl l=none->∃p∈wl,p.1=l)
  (heq:∀(L:Lb) (l:Nat),(∀l y,lget rl l=some y->lget L l=some y)->lget (lupd L wl) l=lget (LL++L) l)
  {A:Nat->Prop} {w:World} {σ:Sig} {al:Al} {L:Lb} {a:Act} (r:Rel E A w σ al L a) (hno:Kst rl\/∀l cells,lget rl l=none->lget L l=some (some cells)->aq noF cells=true) (h2:∀l y,lget rl l=some y->lget L l=some y) (h3:∀p∈wl,lget rl p.1≠none\/lget L p.1=none)
  {cargs:List Value} (hl:cargs.length=args.length) (hcv:∀(i:Nat) (x:PV) (v:Value),args[i]?=some x->cargs[i]?=some v->VR w σ (avo A σ L) x v) :
  T w cargs fun e w'=>∃σ' c,e = .returned c/\VR w' σ' (avo A σ' (lupd L wl)) v c/\BR w' σ' A (lupd L wl)/\Grow (Kx rl) w σ L w' σ' (lupd L wl):=by
 refine hT _ _ _ _ ?_ (h.frameG hT h2 hw hc hno r hl hcv hG)
 rintro e w' ⟨x,c,L1',rfl,⟨rfl,rfl⟩,hk⟩
 obtain ⟨σ',e1,e2,e3⟩:=hk (fun l hl=>by
  by_cases hr:lget rl l=none
  ·cases hy:lget L1' l with
   | none=>exact absurd hy hl
   | some y=>
    obtain ⟨p,hp,rfl⟩:=hnew l y hy hr
    rcases h3 p hp with h | h
    ·exact .inl h
    ·exact .inr h
  ·exact .inl hr) hkeys
 have hq:=fun l=>heq L l h2
 have hgg:Grow top w' σ' (L1'++L) w' σ' (lupd L wl):=⟨Nat.le_refl _,fun _ _ _ h=>h,fun β _ hn=>⟨fun ha=>hn ((oW hq β).1 ha),rfl⟩,⟨rfl,rfl,rfl⟩,fun _ _ _ _ h=>⟨h,rfl⟩⟩
 refine ⟨σ',c,rfl,e1.grow hgg,⟨?_,?_,?_,?_,e2.fr.mono (Nat.le_refl _) (fun _ _ _ k=>k) (fun _ _ _ _=>rfl) fun _ β _ _=>(pP hq β).1⟩,e3.trans (hgg.weaken fun _ _=>trivial)⟩
 ·intro l cells hl
  rw [hq] at hl
  rcases e2.all l cells hl with h1 | ⟨β,add,size,c,T,fr,hB⟩
  ·exact .inl h1
  ·exact .inr ⟨β,add,size,c,T,fr,⟨hB.sig,hB.heap,hB.hsz,hB.fits,fun i x hx=>let ⟨v,h1,h2⟩:=hB.vals i x hx;⟨v,h1,h2.grow hgg⟩,hB.frs⟩⟩
 ·intro l l' c c' β a s a' s' h1 h2;rw [hq] at h1 h2;exact e2.inj l l' c c' β a s a' s' h1 h2
 ·intro l x hx;rw [hq];exact e2.dom l x hx
 ·intro β hA;obtain ⟨h1,h2⟩:=e2.lo β hA;exact ⟨h1,fun ha=>h2 ((oW hq β).1 ha)⟩
theorem mK.use {E:Env} {T:World->List Value->(Ending->World->Prop)->Prop} (hT:∀w cargs (R R':Ending->World->Prop),(∀e w',R e w'->R' e w')->T w cargs R->T w cargs R') {args:List PV} {v:PV} {rl LL wl:Lb} (hG:GOK E) (h:mK E T args rl fun r L'=>r=v/\L'=LL)
  (hw:aq (hasL rl) args=true) (hc:∀l cells,lget rl l=some (some cells)->aq (hasL rl) cells=true)
  (hkeys:∀l,lget rl l≠none->lget LL l≠none) (hnew:∀l y,lget LL l=some y->lget rl l=none->∃p∈wl,p.1=l)
  (heq:∀(L:Lb) (l:Nat),(∀l y,lget rl l=some y->lget L l=some y)->lget (lupd L wl) l=lget (LL++L) l)
  {A:Nat->Prop} {w:World} {σ:Sig} {al:Al} {L:Lb} {a:Act} (r:Rel E A w σ al L a) (hno:Kst rl) (h2:∀l y,lget rl l=some y->lget L l=some y) (h3:∀p∈wl,lget rl p.1≠none\/lget L p.1=none)
  {cargs:List Value} (hl:cargs.length=args.length) (hcv:∀(i:Nat) (x:PV) (v:Value),args[i]?=some x->cargs[i]?=some v->VR w σ (avo A σ L) x v) :
  T w cargs fun e w'=>∃σ' c,e = .returned c/\VR w' σ' (avo A σ' (lupd L wl)) v c/\BR w' σ' A (lupd L wl)/\Grow top w σ L w' σ' (lupd L wl):=
 hT _ _ _ _ (fun _ _ ⟨σ',c,e1,e2,e3,e4⟩=>⟨σ',c,e1,e2,e3,e4.strong hno⟩) (h.useG hT hG hw hc hkeys hnew heq r (.inl hno) h2 h3 hl hcv)
section
variable {E:Env} {d:Option Tmp} {ty:TypeId} {pos:String} {after:Array Edge} {g:Option (Nat×Bool)} {ra:Al} {rl:Lb}
theorem vt {fo:Operand} {args:Array Operand} {ts:Array TypeId} {f:FuncId} {caps xs:List PV} {v:PV} {LL wl:Lb} (hG:GOK E) (hf:xev E.G ra fo=some (.fn f caps)) (hx:xevs E.G ra args.toList=some xs)
  (hrun:∀args w,(callFunc f args).run E.P w = .ok (.enter f args) w) (h:eR E f (xs++caps) rl fun r L'=>r=v/\L'=LL)
  (hw:aq (hasL rl) (xs++caps)=true) (hc:∀l cells,lget rl l=some (some cells)->aq (hasL rl) cells=true)
  (hkeys:∀l,lget rl l≠none->lget LL l≠none) (hnew:∀l y,lget LL l=some y->lget rl l=none->∃p∈wl,p.1=l)
  (heq:∀(L:Lb) (l:Nat),(∀l y,lget rl l=some y->lget L l=some y)->lget (lupd L wl) l=lget (LL++L) l) (hno:Kst rl):AOp E ⟨d,.call ⟨.value fo,args,ts⟩,ty,pos,after,g⟩ ra rl v wl:=by
 intro A w σ al L a r h1 h2 h3
 obtain ⟨cargs,hr,hl,hcv⟩:=w9 (d:=d) (ty:=ty) (pos:=pos) (after:=after) (g:=g) (ts:=ts) r h1 hf hx hrun
 unfold Oper.wp
 rw [hr]
 exact (mK.use (T:=fun w cargs R=>Calls E.P f cargs.toArray w R) (fun w cargs R R' hr h=>h.mono hr) hG h hw hc hkeys hnew heq r hno h2 h3 (by omega) hcv).mono fun e w' ⟨σ',c,he,e1,e2,e3⟩=>by subst he;exact ⟨σ',c,rfl,e1,e2,e3⟩
def AOpW (E:Env) (o:Oper) (ra:Al) (rl:Lb) (x:PV) (wl:Lb):Prop:=
 ∀A w σ al L a,Rel E A w σ al L a->(∀t y,lget ra t=some y->lget al t=some y)->(∀l y,lget rl l=some y->lget L l=some y)->(∀p∈wl,lget rl p.1≠none\/lget L p.1=none) ->
  (∀l cells,lget rl l=none->lget L l=some (some cells)->aq noF cells=true) ->
  o.wp E.P a w (fun a' w'=>∃σ' c,a'=a.put o.dst c/\VR w' σ' (avo A σ' (lupd L wl)) x c/\BR w' σ' A (lupd L wl)/\Grow (fun l=>l≠dN) w σ L w' σ' (lupd L wl)) fun _ _ _=>False
theorem Gg {fo:Operand} {args:Array Operand} {ts:Array TypeId} {f:FuncId} {caps xs:List PV} {v:PV} {LL wl:Lb} (hG:GOK E) (hf:xev E.G ra fo=some (.fn f caps)) (hx:xevs E.G ra args.toList=some xs)
  (hrun:∀args w,(callFunc f args).run E.P w = .ok (.enter f args) w) (h:eR E f (xs++caps) rl fun r L'=>r=v/\L'=LL)
  (hw:aq (hasL rl) (xs++caps)=true) (hc:∀l cells,lget rl l=some (some cells)->aq (hasL rl) cells=true)
  (hkeys:∀l,lget rl l≠none->lget LL l≠none) (hnew:∀l y,lget LL l=some y->lget rl l=none->∃p∈wl,p.1=l)
  (heq:∀(L:Lb) (l:Nat),(∀l y,lget rl l=some y->lget L l=some y)->lget (lupd L wl) l=lget (LL++L) l):AOpW E ⟨d,.call ⟨.value fo,args,ts⟩,ty,pos,after,g⟩ ra rl v wl:=by
 intro A w σ al L a r h1 h2 h3 hno
 obtain ⟨cargs,hr,hl,hcv⟩:=w9 (d:=d) (ty:=ty) (pos:=pos) (after:=after) (g:=g) (ts:=ts) r h1 hf hx hrun
 unfold Oper.wp
 rw [hr]
 exact (mK.useG (T:=fun w cargs R=>Calls E.P f cargs.toArray w R) (fun w cargs R R' hr h=>h.mono hr) hG h hw hc hkeys hnew heq r (.inr hno) h2 h3 (by omega) hcv).mono fun e w' ⟨σ',c,he,e1,e2,e3⟩=>by subst he;exact ⟨σ',c,rfl,e1,e2,e3.weaken fun l hl e=>absurd e hl⟩
theorem JC {K:Nat->Prop} {n:Nat} {al:Al} {L:Lb} {ops:Array Oper} {rest:List Oper} {o:Oper} {Q:Exit->Al->Lb->Prop} {x:PV} {wl:Lb} (h:AOpW E o ra rl x wl) (hG:GOK E) (hnf:∀t x,lget al t=some x->aC noF x=true) (hK:¬K dN)
  (hno:∀l cells,lget rl l=none->lget L l=some (some cells)->aq noF cells=true) (hd:∀t,o.dst=some t->t<n) (h1:∀t y,lget ra t=some y->lget al t=some y) (h2:∀l y,lget rl l=some y->lget L l=some y)
  (h3:∀p∈wl,lget rl p.1≠none\/lget L p.1=none) (hg:iL ops al o=some true)
  (k:AWl E K n ops rest Q (oset o.dst x al) (lupd L wl)):AWl E K n ops (o::rest) Q al L:=by
 intro A w σ a r t
 simp only [wpListIn]
 rw [if_pos (lT r hg)]
 have hop:=h A w σ al L a r h1 h2 h3 hno
 refine ib (qE (uQ hop ?_) hop) ?_ fun _ _ _ h=>h.elim
 ·rintro a' w' ⟨σ',c,rfl,_⟩;exact oC _ _ _
 rintro a' w' ⟨σ',c,rfl,hv,hb,hgr⟩
 have r':=(r.growN hG hnf hb hgr fun l h=>h).put (d:=o.dst) (fun u hu=>by rw [t];exact hd u hu) hv
 refine dF ?_ _ _ _ (k A w' σ' _ r' (by rw [lX];exact t))
 exact fun e a w h=>Post.trans (hgr.weaken fun l hl e=>hK (e▸hl)) h
end
end Go.SH
namespace Go.SH
theorem DM {α:Type} {wl L:List (Nat×α)} {k:Nat} (h:∀p∈wl,∀q∈wl,p.1=q.1->p=q):lget (lupd L wl) k=match lget wl k with | some c=>some c | none=>lget L k:=by
 rcases jj wl L k with ⟨p,hp,rfl,h2⟩ | ⟨h1,h2⟩
 ·have hk:(keys wl).elem p.1=true:=by simp only [keys,List.elem_eq_mem,decide_eq_true_eq];exact List.mem_map.2 ⟨p,hp,rfl⟩
  cases hc:lget wl p.1 with
  | none=>exact absurd hc (zJ.1 hk)
  | some c=>
   have:=h p hp _ (aw hc) rfl
   rw [h2,this]
 ·cases hc:lget wl k with
  | none=>exact h2
  | some c=>exact absurd rfl (h1 _ (aw hc))
theorem rz {s:St} (h:s.ok) {d:Option Nat} {x:DV} (hx:x.ok):(s.set d x).ok:=by
 cases d with
 | none=>exact h
 | some t=>
  refine ⟨fun u y hy=>?_,h.2⟩
  simp only [St.set,lget] at hy
  split at hy
  ·simp at hy;subst hy;exact hx
  ·exact h.1 u y hy
theorem BI {s:St} (h:s.ok) {wl:DLb} {dl:DL} (hw:wlOk wl):(s.wr wl dl).ok:=by
 refine ⟨h.1,fun l c hl=>?_⟩
 simp only [St.wr] at hl
 rcases jj wl s.L l with ⟨p,hp,rfl,h2⟩ | ⟨_,h2⟩
 ·rw [h2] at hl;simp at hl;subst hl;exact hw p hp
 ·rw [h2] at hl;exact h.2 l c hl
theorem ry (s:St) (d:Option Nat) (x:DV):Up s (s.set d x):=fun _ h=>h.set d x
theorem BH {s:St} {wl:DLb} {dl:DL} (h:oY s.L wl dl):Up s (s.wr wl dl):=fun _ k=>k.wr h
theorem qC (s:St) (d:Option Nat) (x:DV):dal (s.set d x).al=oset d x.pv (dal s.al):=by cases d <;> rfl
theorem qy (s:St) (d:Option Nat) (x:DV):(s.set d x).L=s.L:=by cases d <;> rfl
theorem IF {s:St} (h:s.ok):(resV s).ok:=by
 unfold resV
 split
 ·rename_i d hd;exact h.1 _ _ hd
 ·trivial
theorem DD:∀{m m':List (Nat×Nat)},rO (m++m')=true->∀p∈m,lk (m++m') p.1=p.2:=fun h p hp=>uS h p (List.mem_append_left _ hp)
section
variable {E:Env} {d:Option Tmp} {ty:TypeId} {pos:String} {after:Array Edge} {gg:Option (Nat×Bool)} {ra:DAl} {rl:DLb} {R:Type} {k:DV->DLb->DL->Option R} {r:R} {G:GTab}
def OpB (wk:Bool) (E:Env) (o:Oper) (ra:DAl) (rl:DLb) {R:Type} (k:DV->DLb->DL->Option R) (r:R):Prop:=
 ∃x wl dl,(match wk with
  | false=>AOp E o (dal ra) (dlb rl) x.pv (dlb wl)
  | true=>AOpW E o (dal ra) (dlb rl) x.pv (dlb wl))/\x.ok/\wlOk wl/\oY rl wl dl/\k x wl dl=some r
theorem CK {c:DC} (h:zN c=true) {cells:List PV} (hc:c.pv=some cells):aq noF cells=true:=by
 cases c with
 | gone=>simp [DC.pv] at hc
 | cs ds=>
  simp [DC.pv] at hc;subst hc
  simp only [zN,Bool.and_eq_true] at h
  exact gL h.1 (.inl h.2)
 | ls t l=>simp [DC.pv] at hc;subst hc;exact hY (.inl h) _
theorem F0 {wk:Bool} (hG:E.G=gtPV G) (hE:GOK E) (hal:alOk ra) (hrl:lbOk rl) {fr:Nat} {con:ICon E} {f:FuncId} {fo:Operand} {args:Array Operand} {ts:Array TypeId} {caps xs:List DV} (hf:dev G ra fo=some (.fn f caps)) (hx:devs G ra args.toList=some xs)
  (h:D4 wk rl fr con f (xs++caps) k=some r):OpB wk E ⟨d,.call ⟨.value fo,args,ts⟩,ty,pos,after,gg⟩ ra rl k r:=by
 obtain ⟨hf',_⟩:=bT hal hf
 obtain ⟨hx',hxo⟩:=t9 hal hx
 rw [<-hG] at hf' hx'
 unfold D4 at h
 split at h
 rotate_left
 ·simp at h
 rename_i hc0;obtain ⟨rfl,hk1,hk2,hk3⟩:=hc0
 split at h
 rotate_left
 ·simp at h
 rename_i g1 hg1
 split at h
 rotate_left
 ·simp at h
 rename_i g hg
 obtain ⟨hq,h⟩:=wq h
 split at h
 rotate_left
 ·simp at h
 rename_i a ha
 obtain ⟨v,hv,h⟩:=bind_some h
 simp only at h
 split at h
 rotate_left
 ·simp at h
 rename_i hc
 obtain ⟨c1,c2,c3,c4,c5,c6,c7,c8,c9,c10,c11,c12,c13,c14⟩:=hc
 have hu:=sX ha
 obtain ⟨a1,as,a2,a3,a4⟩:=mg _ con.ar hg1
 obtain ⟨b1,ys,b2,b4⟩:=wy hg
 have hvs:g.vs=as++ys:=by rw [b2,a2];simp
 have hC:=con.ok a v hv
 rw [hu] at hC
 generalize hlen:nV con.ar con.ls g.vs=len at *
 generalize ho:con.ot.app v (inS con.ar con.ls g.vs)=o at *
 have hAeq:inA con.ar con.ls g.vs=(Sh.mks len con.ar (as++ys)).1:=by unfold inA;rw [hlen,hvs]
 have hτ:∀p∈g.m,lk (g.m++newN (fr) (keys con.ls) (keys o.L) 0) p.1=p.2:=DD c1
 generalize lk (g.m++newN (fr) (keys con.ls) (keys o.L) 0)=τ at *
 have hLk:keys (inL con.ar con.ls g.vs)=keys con.ls:=jT _ _ _
 have hS:hasL (dlb (inL con.ar con.ls g.vs))=fun l=>(keys con.ls).elem l:=by rw [fZ,hLk]
 have hF:Fin τ (hasL (dlb (inL con.ar con.ls g.vs))) len g:=⟨fun p hp=>⟨hτ p hp,by rw [hS];exact List.all_eq_true.1 c2 p hp⟩,hq⟩
 obtain ⟨d1,d2,d3⟩:=a4 len ys τ _ (hF.sub b1).m (hF.sub b1).q
 obtain ⟨e1,e2⟩:=b4 [] hF
 have hx1:=Hs hg b2 (rest:=[]) hF
 rw [List.append_nil] at e1 e2 hx1
 have hLeq:inL con.ar con.ls g.vs=(mkL len con.ls ys).1:=by
  unfold inL;rw [hlen,hvs]
  simp only at d1
  rw [d1]
 let L2:Lb:=con.ls.map fun p=>(τ p.1,match lget rl (τ p.1) with | some c=>c.pv | none=>none)
 have hL2k:hasL L2=fun l=>((keys con.ls).map τ).elem l:=by
  have:L2=dlb (con.ls.map fun p=>(τ p.1,match lget rl (τ p.1) with | some c=>c | none=>.gone)):=by
   simp only [L2,dlb,List.map_map]
   refine List.map_congr_left fun p _=>?_
   simp only [Function.comp]
   cases lget rl (τ p.1) <;> rfl
  rw [this,fZ]
  funext l
  simp only [keys,List.map_map]
  rfl
 have hin:∀l,l∈keys con.ls->∃c cells,lget rl (τ l)=some c/\c.pv=some cells/\kK (fun l=>((keys con.ls).map τ).elem l) c=true:=by
  intro l hl
  obtain ⟨p,hp,rfl⟩:=List.mem_map.1 hl
  have:=List.all_eq_true.1 c4 p hp
  split at this
  ·simp at this
  ·rename_i c hne hc
   cases c with
   | gone=>exact (hne rfl).elim
   | cs ds=>exact ⟨_,_,hc,rfl,this⟩
   | ls t x=>exact ⟨_,_,hc,rfl,this⟩
  ·simp at this
 have hsub:∀p∈L2,lget (dlb rl) p.1=some p.2:=by
  intro p hp
  obtain ⟨q,hq,rfl⟩:=List.mem_map.1 hp
  obtain ⟨c,cells,h1,h2,_⟩:=hin q.1 (List.mem_map.2 ⟨q,hq,rfl⟩)
  simp only;rw [aB,h1];rfl
 have hL2get:∀l,l∈keys con.ls->lget L2 (τ l)=lget (dlb rl) (τ l):=by
  intro l hl
  have:hasL L2 (τ l)=true:=by rw [hL2k];simp only [List.elem_eq_mem,decide_eq_true_eq];exact List.mem_map.2 ⟨l,hl,rfl⟩
  simp only [hasL,Option.isSome_iff_exists] at this
  obtain ⟨y,hy⟩:=this
  rw [hy];exact (hsub _ (aw hy)).symm
 have hinj:∀l l',lget (dlb o.L) l≠none->lget (dlb o.L) l'≠none->τ l=τ l'->l=l':=by
  intro l l' h1 h2 h3
  have hk:∀{l},lget (dlb o.L) l≠none->l∈keys o.L:=fun {l} h=>by
   have:hasL (dlb o.L) l=true:=by simpa [hasL,Option.isSome_iff_ne_none] using h
   rw [fZ] at this;simpa using this
  have:=List.all_eq_true.1 (List.all_eq_true.1 c6 l (hk h1)) l' (hk h2)
  simp only [decide_eq_true_eq] at this
  exact this h3
 have hmemo:∀{l},lget (dlb o.L) l≠none<->l∈keys o.L:=fun {l}=>by
  have:hasL (dlb o.L) l=true<->l∈keys o.L:=by rw [fZ];simp
  rw [<-this];simp [hasL,Option.isSome_iff_ne_none]
 have hmemi:∀{l},lget (dlb (inL con.ar con.ls g.vs)) l≠none<->l∈keys con.ls:=fun {l}=>by
  have:hasL (dlb (inL con.ar con.ls g.vs)) l=true<->l∈keys con.ls:=by rw [hS];simp
  rw [<-this];simp [hasL,Option.isSome_iff_ne_none]
 have hdom:∀l,l∈keys con.ls->l∈keys o.L:=fun l hl=>by simpa using List.all_eq_true.1 c5 l hl
 have hrn:∀l,l∈keys o.L->lget (rnL τ o.L) (τ l)=(lget o.L l).map (DC.rn τ):=fun l hl=>AE fun l' hl' e=>hinj l' l (hmemo.2 hl') (hmemo.2 hl) e
 have hkp:∀l,lget (dlb (inL con.ar con.ls g.vs)) l≠none->τ l=dN->l=dN:=fun l hl=>by
  have:=List.all_eq_true.1 c13 l (hmemi.1 hl)
  exact of_decide_eq_true this
 have hR:=eR.ren (L2:=L2) (LL2:=dlb (rnL τ o.L)) (τ:=τ) (xs:=DV.pvs (xs++caps)) hC (by
   rw [hAeq];exact d2.get.1) (fun i x y hx hy=>by rw [hAeq] at hy;exact d2.get.2 i x y hx hy) (fun l c hl=>by
   have hlk:l∈keys con.ls:=hmemi.1 (by rw [hl];simp)
   have hm:=aw hl
   obtain ⟨⟨l',c'⟩,hp,e⟩:=List.mem_map.1 hm
   simp only [Prod.mk.injEq] at e;obtain ⟨rfl,rfl⟩:=e
   rw [hLeq] at hp
   obtain ⟨_,ys',k2,k3⟩:=e2 _ hp
   simp only at k2 k3
   rcases k3 with ⟨xs',k4,k5⟩ | ⟨k4,_⟩
   ·exact ⟨ys',xs',k2,by rw [hL2get _ hlk];exact k4,k5⟩
   ·obtain ⟨c,cells,h1,_⟩:=hin _ hlk
    rw [aB,h1] at k4;simp at k4)
  (fun k' hk'=>by
   have:hasL L2 k'=true:=by simpa [hasL,Option.isSome_iff_ne_none] using hk'
   rw [hL2k] at this
   simp only [List.elem_eq_mem,decide_eq_true_eq] at this
   obtain ⟨l,h1,h2⟩:=List.mem_map.1 this
   exact ⟨l,hmemi.2 h1,h2⟩) hinj (fun l hl=>hmemo.2 (hdom l (hmemi.1 hl)))
  (by rw [fZ];exact vI c7) (fun l cells hl=>by
   have hm:=aw hl
   obtain ⟨⟨l',c'⟩,hp,e⟩:=List.mem_map.1 hm
   simp only [Prod.mk.injEq] at e;obtain ⟨rfl,e⟩:=e
   have h8:=List.all_eq_true.1 c8 _ hp
   rw [fZ]
   cases c' with
   | gone=>simp [DC.pv] at e
   | cs ds=>simp [DC.pv] at e;subst e;exact ir h8
   | ls t x=>
    simp [DC.pv] at e;subst e
    simp only [kK,Bool.or_eq_true] at h8
    exact hY h8 _)
  (fun l c hl=>by
   have hlk:l∈keys o.L:=hmemo.1 (by rw [hl];simp)
   rw [aB] at hl
   cases ho2:lget o.L l with
   | none=>rw [ho2] at hl;simp at hl
   | some c'=>
    rw [ho2] at hl;simp at hl;subst hl
    rw [aB,hrn l hlk,ho2]
    simp [HJ])
  (fun k' hk'=>by
   rw [aB] at hk'
   obtain ⟨l,h1,h2⟩:=jV (L:=o.L) (τ:=τ) (k:=k') (fun e=>hk' (by rw [e];rfl))
   exact ⟨l,hmemo.2 h1,h2⟩) hkp hE
 have hwl_nd:∀p∈wlI τ rl con.ls con.ot o.L,∀q∈wlI τ rl con.ls con.ot o.L,p.1=q.1->p=q:=by
  intro p hp q hq e
  obtain ⟨⟨l,c⟩,hp1,rfl⟩:=List.mem_map.1 hp
  obtain ⟨⟨l',c'⟩,hq1,rfl⟩:=List.mem_map.1 hq
  have hp':=(List.mem_filter.1 hp1).1
  have hq':=(List.mem_filter.1 hq1).1
  have h1:=g9 c11 hp'
  have h2:=g9 c11 hq'
  have hlk:∀{l c},(l,c)∈o.L->l∈keys o.L:=fun h=>List.mem_map.2 ⟨_,h,rfl⟩
  have:=hinj l l' (hmemo.2 (hlk hp')) (hmemo.2 (hlk hq')) e
  subst this
  rw [h1] at h2;simp at h2;rw [h2]
 have hbase:∀l c,lget o.L l=some c->l ∉ keys con.ot.labs->∃c0,(l,c0)∈inL con.ar con.ls g.vs/\∃cu:List (Nat×Nat×DV),(cu.map fun c=>(c.1,c.2.1))=(con.ot.cups.map fun c=>(c.1,c.2.1))/\c=cupL cu con.ot.killL l c0:=by
  intro l c hl hn
  rw [<-ho] at hl
  simp only [Tm.app,Tm.appL] at hl
  rcases nT hl with ⟨p,hp,rfl⟩ | ⟨_,hl⟩
  ·have:l∈keys con.ot.labs:=by
    have h1:l∈(mkL (lenF (lenT con.ot.labs ((ai con.ot.hs v).drop (nS con.ot.slots))) (inS con.ar con.ls g.vs).L) con.ot.labs (mkS (lenF (lenT con.ot.labs ((ai con.ot.hs v).drop (nS con.ot.slots))) (inS con.ar con.ls g.vs).L) con.ot.slots (ai con.ot.hs v)).2).1.map (·.1):=List.mem_map.2 ⟨_,hp,rfl⟩
    rw [jT] at h1;exact h1
   exact absurd this hn
  ·obtain ⟨⟨l',c0⟩,hp,e⟩:=List.mem_map.1 (aw hl)
   simp only [Prod.mk.injEq] at e;obtain ⟨rfl,rfl⟩:=e
   exact ⟨c0,aw (kJ hp).2,_,pM _ _ _,rfl⟩
 have hcup_no:∀{cu:List (Nat×Nat×DV)} {l:Nat} {c0:DC},(cu.map fun c=>(c.1,c.2.1))=(con.ot.cups.map fun c=>(c.1,c.2.1))->con.ot.killL.elem l=false->∀t x,c0 = .ls t x->cupL cu con.ot.killL l c0 = .ls t x:=by
  intro cu l c0 _ hk t x e;subst e;simp only [cupL,hk]
 have hkept:∀l,l∈keys o.L->nU τ rl con.ls con.ot l=true->∃c,lget rl (τ l)=some c/\(lget o.L l).map (DC.rn τ)=some c:=by
  intro l hlo hk
  simp only [nU,Bool.and_eq_true,Bool.not_eq_true'] at hk
  obtain ⟨⟨⟨k1,k2⟩,k3⟩,k4⟩:=hk
  split at k4
  ·rename_i sl hsl
   cases hoc:lget o.L l with
   | none=>exact absurd (by rw [aB,hoc];rfl) (hmemo.2 hlo)
   | some c=>
    have hn:l ∉ keys con.ot.labs:=fun hm=>by
     have:(keys con.ot.labs).elem l=true:=by simpa using hm
     rw [this] at k1;simp at k1
    obtain ⟨c0,h1,cu,h2,h3⟩:=hbase l c hoc hn
    rw [hLeq] at h1
    obtain ⟨sh,h4,h5⟩:=hx1 _ h1
    have h6:=g9 c12 h4
    rw [hsl] at h6;simp at h6;subst h6
    unfold DH at k4
    split at k4
    ·rename_i t t' x hls
     simp at k4;subst k4
     obtain ⟨y,h7,h8⟩:=h5
     simp only at h7 h8
     have h9:=h8 x hls
     subst h9
     exact ⟨_,hls,by rw [h3,hcup_no h2 k2 _ _ h7];rfl⟩
    ·rename_i ss ds hls
     obtain ⟨ds',es,h6,h7,h8,h9,h10⟩:=h5
     simp only at h6 h7
     rw [hls] at h6;simp at h6;subst h6
     refine ⟨_,hls,?_⟩
     rw [h3,h7]
     simp only [cupL,k2,Option.map_some,DC.rn]
     have hno:∀i e0,cupD cu l i e0=e0:=by
      intro i e0
      rcases oT cu l i e0 with ⟨h13,_⟩ | ⟨q,h13,h14,h15,_⟩
      ·exact h13
      ·exfalso
       have hm:(q.1,q.2.1)∈cu.map (fun c=>(c.1,c.2.1)):=List.mem_map.2 ⟨q,h13,rfl⟩
       rw [h2] at hm
       obtain ⟨q',h16,h17⟩:=List.mem_map.1 hm
       simp at h17
       have:(con.ot.cups.any fun c=>decide (c.1=l))=true:=List.any_eq_true.2 ⟨q',h16,by simp [h17.1,h14]⟩
       rw [this] at k3;simp at k3
     congr 2
     refine List.ext_getElem? fun i=>?_
     rw [xd,la]
     cases hei:es[i]? with
     | none=>
      have:ds.length<=i:=by have:=List.getElem?_eq_none_iff.1 hei;omega
      rw [List.getElem?_eq_none this];rfl
     | some e0=>
      have hlt:i<ds.length:=by have:=(List.getElem?_eq_some_iff.1 hei).1;omega
      have hdi:=List.getElem?_eq_getElem hlt
      have hsi:ss[i]?=some (ss[i]'(by omega)):=List.getElem?_eq_getElem (by omega)
      obtain ⟨e,h11,h12⟩:=h10 i _ _ hsi hdi (ui k4 hsi hdi)
      rw [hei] at h11;simp at h11;subst h11
      simp only [Option.map_some,Nat.zero_add,hno]
      rw [h12,hdi]
    ·simp at k4
  ·simp at k4
 have hwl:∀l,l∈keys o.L->lget (wlI τ rl con.ls con.ot o.L) (τ l)=if nU τ rl con.ls con.ot l=true then none else (lget o.L l).map (DC.rn τ):=by
  intro l hl
  unfold wlI
  rw [AE]
  ·rw [Cs (f:=fun l=>!nU τ rl con.ls con.ot l)]
   cases nU τ rl con.ls con.ot l <;> simp
  ·intro l' hl' e
   obtain ⟨p,hp,rfl⟩:=List.mem_map.1 hl'
   exact hinj _ _ (hmemo.2 (List.mem_map.2 ⟨p,(List.mem_filter.1 hp).1,rfl⟩)) (hmemo.2 hl) e
 have hstate:∀(L:Lb) (l:Nat),(∀l y,lget L2 l=some y->lget L l=some y)->lget (lupd L (dlb (wlI τ rl con.ls con.ot o.L))) l=lget (dlb (rnL τ o.L)++L) l:=by
  intro L k' hL
  have hwl_nd':∀p∈dlb (wlI τ rl con.ls con.ot o.L),∀q∈dlb (wlI τ rl con.ls con.ot o.L),p.1=q.1->p=q:=by
   intro p hp q hq e
   obtain ⟨p',hp1,rfl⟩:=List.mem_map.1 hp
   obtain ⟨q',hq1,rfl⟩:=List.mem_map.1 hq
   rw [hwl_nd p' hp1 q' hq1 e]
  rw [eo,aB,DM hwl_nd',aB]
  by_cases hk:∃l∈keys o.L,τ l=k'
  ·obtain ⟨l,hl,rfl⟩:=hk
   rw [hwl l hl,hrn l hl]
   cases hoc:lget o.L l with
   | none=>exact absurd (by rw [aB,hoc];rfl) (hmemo.2 hl)
   | some c=>
    cases hkp:nU τ rl con.ls con.ot l with
    | true=>
     obtain ⟨c1,h1,h2⟩:=hkept l hl hkp
     rw [hoc] at h2;simp at h2
     have hlk:l∈keys con.ls:=by
      simp only [nU,Bool.and_eq_true] at hkp
      have h3:=hkp.2
      split at h3
      ·rename_i hls;have:(keys con.ls).elem l=true:=zJ.2 (by rw [hls];simp)
       simpa using this
      ·simp at h3
     have h4:lget L (τ l)=some c1.pv:=hL _ _ (by rw [hL2get l hlk,aB,h1];rfl)
     simp [h4,h2]
    | false=>simp
  ·have h1:lget (rnL τ o.L) k'=none:=by
    cases hc:lget (rnL τ o.L) k' with
    | none=>rfl
    | some c=>exact absurd (jV (by rw [hc];simp)) hk
   have h2:lget (wlI τ rl con.ls con.ot o.L) k'=none:=by
    cases hc:lget (wlI τ rl con.ls con.ot o.L) k' with
    | none=>rfl
    | some c=>
     obtain ⟨l,h3,h4⟩:=jV (L:=o.L.filter fun p=>!nU τ rl con.ls con.ot p.1) (τ:=τ) (k:=k') (by unfold wlI at hc;rw [hc];simp)
     obtain ⟨p,hp,rfl⟩:=List.mem_map.1 h3
     exact absurd ⟨p.1,List.mem_map.2 ⟨p,(List.mem_filter.1 hp).1,rfl⟩,h4⟩ hk
   rw [h1,h2]
   simp
 have hook:o.ok:=by
  rw [<-ho]
  refine H7 hk1 v ⟨fun t x hx=>by simp [inS,lget] at hx,fun l c hl=>?_⟩
  exact oJ hk2 (l,c) (aw hl)
 have hwlok:wlOk (wlI τ rl con.ls con.ot o.L):=by
  intro p hp
  obtain ⟨⟨l,c⟩,hp1,rfl⟩:=List.mem_map.1 hp
  have h1:=hook.2 l c (g9 c11 (List.mem_filter.1 hp1).1)
  cases c with
  | gone=>trivial
  | ls t x=>trivial
  | cs ds=>exact xc τ h1
 have hdirty:oY rl (wlI τ rl con.ls con.ot o.L) (r9 τ rl con.ls con.ot):=by
  intro p hp
  obtain ⟨⟨l,c⟩,hp1,rfl⟩:=List.mem_map.1 hp
  obtain ⟨hpm,hnk⟩:=List.mem_filter.1 hp1
  have hoc:=g9 c11 hpm
  have hlo:l∈keys o.L:=List.mem_map.2 ⟨_,hpm,rfl⟩
  simp only
  by_cases hlab:l∈keys con.ot.labs
  ·left
   obtain ⟨q,hq,rfl⟩:=List.mem_map.1 hlab
   simp only [r9,List.mem_append]
   exact .inl (.inl (.inl (List.mem_map.2 ⟨q,hq,rfl⟩)))
  ·obtain ⟨c0,h1,cu,h2,h3⟩:=hbase l c hoc hlab
   cases hkl:con.ot.killL.elem l with
   | true=>
    left
    simp only [r9,List.mem_append]
    exact .inl (.inr (List.mem_map.2 ⟨l,by simpa using hkl,rfl⟩))
   | false=>
    rw [hLeq] at h1
    obtain ⟨sh,h4,h5⟩:=hx1 _ h1
    simp only at h4 h5
    have hsh:=g9 c12 h4
    have hinx:∀z,z∈qr (τ l) sh (lget rl (τ l))->z∈r9 τ rl con.ls con.ot:=by
     intro z hz
     simp only [r9,List.mem_append]
     exact .inr (List.mem_flatMap.2 ⟨(l,sh),h4,hz⟩)
    cases sh with
    | ls t=>
     obtain ⟨y,h6,h7⟩:=h5
     have hnk':nU τ rl con.ls con.ot l=false:=by simpa using hnk
     have hl1:(keys con.ot.labs).elem l=false:=by simpa using hlab
     simp only [nU,hl1,hkl,hsh,Bool.not_false,Bool.true_and,Bool.and_eq_false_iff,Bool.not_eq_false'] at hnk'
     rcases hnk' with h8 | h8
     ·-- a cell of a list: there is none
      left
      simp only [List.any_eq_true,decide_eq_true_eq] at h8
      obtain ⟨q,hq,rfl⟩:=h8
      exfalso
      have:=List.all_eq_true.1 hk3 q hq
      split at this
      ·rename_i ss hss;rw [hsh] at hss;simp at hss
      ·simp at this
     ·left
      refine hinx _ ?_
      unfold qr
      simp only
      cases hsl:lget rl (τ l) with
      | none=>simp
      | some c'=>
       cases c' with
       | gone=>simp
       | cs ds=>simp
       | ls t' x=>
        simp only
        rw [hsl] at h8
        simp only [DH,decide_eq_false_iff_not] at h8
        rw [if_neg h8];simp
    | cs ss=>
     obtain ⟨ds,es,h6,h7,h8,h9,h10⟩:=h5
     right
     subst h7
     have hcc:c = .cs (cupM cu l 0 es):=by rw [h3];simp only [cupL,hkl]
     subst hcc
     refine ⟨ds,DV.rns τ (cupM cu l 0 es),h6,rfl,by rw [B2,ub,h8],fun i hi=>?_⟩
     rw [xd,la]
     cases hei:es[i]? with
     | none=>
      have:ds.length<=i:=by have:=List.getElem?_eq_none_iff.1 hei;omega
      rw [List.getElem?_eq_none this];rfl
     | some e0=>
      have hlt:i<ds.length:=by have:=(List.getElem?_eq_some_iff.1 hei).1;omega
      have hdi:=List.getElem?_eq_getElem hlt
      have hsi:ss[i]?=some (ss[i]'(by omega)):=List.getElem?_eq_getElem (by omega)
      have hex:fb (ss[i]'(by omega)) ds[i]=true:=by
       refine Cw (k:=τ l) (j:=0) (i:=i) (fun hm=>hi (hinx _ ?_)) hsi hdi
       unfold qr
       simp only [h6]
       simpa using hm
      obtain ⟨e,h11,h12⟩:=h10 i _ _ hsi hdi hex
      rw [hei] at h11;simp at h11;subst h11
      simp only [Option.map_some,Nat.zero_add]
      rcases oT cu l i e0 with ⟨h13,_⟩ | ⟨q,h13,h14,h15,_⟩
      ·rw [h13,h12,hdi]
      ·exfalso
       have hm:(q.1,q.2.1)∈cu.map (fun c=>(c.1,c.2.1)):=List.mem_map.2 ⟨q,h13,rfl⟩
       rw [h2] at hm
       obtain ⟨q',h16,h17⟩:=List.mem_map.1 hm
       simp at h17
       refine hi ?_
       simp only [r9,List.mem_append]
       exact .inl (.inl (.inr (List.mem_map.2 ⟨q',h16,by rw [h17.1,h17.2,h14,h15]⟩)))
 have hA1:aq (hasL L2) (DV.pvs xs++DV.pvs caps)=true:=by
  rw [hL2k,<-eE];exact ir c3
 have hA2:∀l cells,lget L2 l=some (some cells)->aq (hasL L2) cells=true:=by
  intro l cells hl
  obtain ⟨q,hq,e⟩:=List.mem_map.1 (aw hl)
  simp only [Prod.mk.injEq] at e
  obtain ⟨rfl,hc⟩:=e
  rw [hL2k]
  obtain ⟨c,cells',h1,h2,h3⟩:=hin q.1 (List.mem_map.2 ⟨q,hq,rfl⟩)
  rw [h1] at hc
  simp only at hc
  rw [h2] at hc;simp at hc;subst hc
  cases c with
  | gone=>simp [DC.pv] at h2
  | cs ds=>simp [DC.pv] at h2;subst h2;exact ir h3
  | ls t x=>
   simp [DC.pv] at h2;subst h2
   simp only [kK,Bool.or_eq_true] at h3
   exact hY h3 _
 have hA3:∀l,lget L2 l≠none->lget (dlb (rnL τ o.L)) l≠none:=by
  intro l hl
  have:hasL L2 l=true:=by simpa [hasL,Option.isSome_iff_ne_none] using hl
  rw [hL2k] at this
  simp only [List.elem_eq_mem,decide_eq_true_eq] at this
  obtain ⟨q,hq,rfl⟩:=List.mem_map.1 this
  have hl2:=hdom q hq
  rw [aB,hrn q hl2]
  cases hoc:lget o.L q with
  | none=>exact absurd (by rw [aB,hoc];rfl) (hmemo.2 hl2)
  | some c=>simp
 have hA4:∀l y,lget (dlb (rnL τ o.L)) l=some y->lget L2 l=none->∃p∈dlb (wlI τ rl con.ls con.ot o.L),p.1=l:=by
  intro l y hl hn
  have h1:lget (rnL τ o.L) l≠none:=fun e=>by rw [aB,e] at hl;simp at hl
  obtain ⟨q,hq,rfl⟩:=jV h1
  have hnl:q ∉ keys con.ls:=fun hm=>by
   have:hasL L2 (τ q)=true:=by rw [hL2k];simp only [List.elem_eq_mem,decide_eq_true_eq];exact List.mem_map.2 ⟨q,hm,rfl⟩
   simp only [hasL,hn] at this;simp at this
  have hnk:nU τ rl con.ls con.ot q=false:=by
   have:lget con.ls q=none:=by
    cases hc:lget con.ls q with
    | none=>rfl
    | some c=>exact absurd (by have:(keys con.ls).elem q=true:=zJ.2 (by rw [hc];simp)
                               simpa using this) hnl
   simp only [nU,this,Bool.and_false]
  obtain ⟨p,hp,rfl⟩:=List.mem_map.1 hq
  exact ⟨(τ p.1,(p.2.rn τ).pv),List.mem_map.2 ⟨(τ p.1,p.2.rn τ),List.mem_map.2 ⟨p,List.mem_filter.2 ⟨hp,by simp [hnk]⟩,rfl⟩,rfl⟩,rfl⟩
 have hcall:eR E con.f (DV.pvs xs++DV.pvs caps) L2 fun r L'=>r=((resV o).rn τ).pv/\L'=dlb (rnL τ o.L):=by rw [<-eE,GP];exact hR
 have hl2e:∀{l:Nat},((keys con.ls).map τ).elem l=true->lget L2 l≠none:=fun {l} h=>by
  have:hasL L2 l=true:=by rw [hL2k];exact h
  simpa [hasL,Option.isSome_iff_ne_none] using this
 have hwc:∀{L:Lb},(∀l y,lget (dlb rl) l=some y->lget L l=some y)->(∀p∈dlb (wlI τ rl con.ls con.ot o.L),lget (dlb rl) p.1≠none\/lget L p.1=none) ->
   (∀l y,lget L2 l=some y->lget L l=some y)/\∀p∈dlb (wlI τ rl con.ls con.ot o.L),lget L2 p.1≠none\/lget L p.1=none:=by
  intro L h2 h3
  refine ⟨fun l y hl=>h2 l y ?_,fun p hp=>?_⟩
  ·rw [<-hsub (l,y) (aw hl)]
  ·rcases h3 p hp with h4 | h4
   ·left
    obtain ⟨p',hp1,rfl⟩:=List.mem_map.1 hp
    obtain ⟨⟨l,c⟩,hq1,rfl⟩:=List.mem_map.1 hp1
    have hl:l∈keys o.L:=List.mem_map.2 ⟨_,(List.mem_filter.1 hq1).1,rfl⟩
    have:=List.all_eq_true.1 c9 l hl
    simp only [Bool.or_eq_true,Bool.not_eq_true'] at this
    rcases this with h5 | h5
    ·refine hl2e ?_
     simp only [List.elem_eq_mem,decide_eq_true_eq] at h5 ⊢;exact List.mem_map.2 ⟨l,h5,rfl⟩
    ·exfalso
     simp only at h4
     rw [aB] at h4
     have:(keys rl).elem (τ l)=true:=zJ.2 fun e=>h4 (by rw [e];rfl)
     rw [this] at h5;simp at h5
   ·exact .inr h4
 refine ⟨_,_,_,?_,GQ τ (IF hook),hwlok,hdirty,h⟩
 cases wk with
 | false=>
  have hno:Kst L2:=by
   simp only [wkOK,Bool.or_eq_true,Bool.not_eq_true'] at c14
   rcases c14 with h | h
   ·left
    cases hc:lget L2 flab with
    | none=>rfl
    | some y=>
     have:hasL L2 flab=true:=by simp [hasL,hc]
     rw [hL2k] at this
     simp only at this
     rw [this] at h;simp at h
   ·exact .inr (hl2e h)
  have hA:AOp E ⟨d,.call ⟨.value fo,args,ts⟩,ty,pos,after,gg⟩ (dal ra) L2 ((resV o).rn τ).pv (dlb (wlI τ rl con.ls con.ot o.L)):=
   vt (caps:=DV.pvs caps) (xs:=DV.pvs xs) (LL:=dlb (rnL τ o.L)) hE hf' hx' con.run hcall hA1 hA2 hA3 hA4 hstate hno
  intro A w σ al L a r h1 h2 h3
  obtain ⟨k1,k2⟩:=hwc h2 h3
  exact hA A w σ al L a r h1 k1 k2
 | true=>
  have hA:AOpW E ⟨d,.call ⟨.value fo,args,ts⟩,ty,pos,after,gg⟩ (dal ra) L2 ((resV o).rn τ).pv (dlb (wlI τ rl con.ls con.ot o.L)):=
   Gg (caps:=DV.pvs caps) (xs:=DV.pvs xs) (LL:=dlb (rnL τ o.L)) hE hf' hx' con.run hcall hA1 hA2 hA3 hA4 hstate
  intro A w σ al L a r h1 h2 h3 h4
  obtain ⟨k1,k2⟩:=hwc h2 h3
  refine hA A w σ al L a r h1 k1 k2 fun l cells hl hL=>?_
  cases hr:lget rl l with
  | none=>exact h4 l cells (by rw [aB,hr];rfl) hL
  | some c=>
   have e1:=h2 l c.pv (by rw [aB,hr];rfl)
   rw [hL] at e1
   simp only [wkOK] at c14
   have:=List.all_eq_true.1 c14 (l,c) (aw hr)
   simp only [Bool.or_eq_true] at this
   rcases this with h5 | h5
   ·exact absurd hl (hl2e h5)
   ·exact CK h5 (by simpa using e1.symm)
def Bb {E:Env} (wk:Bool) (G:GTab) (con:Option (ICon E)) (o:Oper) (al:DAl) (L:DLb) (nl:Nat) {R:Type} (k:DV->DLb->DL->Option R):Option R:=match o.op with
 | .call ⟨.value fo,args,_⟩=>match dev G al fo with
  | some (.fn f caps)=>match devs G al args.toList with
   | some xs=>match con with
    | some con=>D4 wk L nl con f (xs++caps) k
    | none=>none
   | none=>none
  | _=>none
 | _=>none
theorem zP {wk:Bool} (hG:E.G=gtPV G) (hE:GOK E) (hal:alOk ra) (hrl:lbOk rl) {con:Option (ICon E)} {o:Oper} {nl:Nat} (h:Bb wk G con o ra rl nl k=some r):OpB wk E o ra rl k r:=by
 obtain ⟨dst,op,ty,pos,after,g⟩:=o
 unfold Bb at h
 simp only at h
 split at h
 ·split at h
  ·rename_i hf
   split at h
   ·rename_i hx
    split at h
    ·exact F0 hG hE hal hrl hf hx h
    ·simp at h
   ·simp at h
  ·simp at h
 ·simp at h
structure CT (E:Env) where
 p:Nat->Option (PCon E)
 i:Nat->Option (ICon E)
def dOpX (E:Env) (G:GTab) (C:CT E) (oh:OH) (o:Oper) (al:DAl) (L:DLb) (nl:Nat) {R:Type} (k:DV->DLb->DL->Option R):Option R:=match oh.io with
 | none=>dOp E G C.p oh o al L nl k
 | some j=>Bb false G (C.i j) o al L nl k
theorem A0 (hG:E.G=gtPV G) (hE:GOK E) {C:CT E} {oh:OH} {o:Oper} {nl:Nat} (hal:alOk ra) (hrl:lbOk rl) (hn:lget rl nl=none) (h:dOpX E G C oh o ra rl nl k=some r):OpS E o ra rl k r:=by
 unfold dOpX at h
 split at h
 ·exact KO hG hE hal hrl hn h
 ·exact zP hG hE hal hrl h
end
end Go.SH
namespace Go.SH
theorem DP {w:World} {σ:Sig} {A:Nat->Prop} {L:Lb} (hb:BR w σ A L) {l off n sz:Nat} {co:Option Nat} {cells part:List PV} (hl:lget L l=some (some cells)) (hp:(cells.drop off).take (n*sz)=part) (hin:off+n*sz<=cells.length)
  (hpure:aq (fun _=>false) part=true) {v:Value} (h:VR w σ (avo A σ L) (.rw l off n sz co) v):VR w σ (avo A σ (lset L l none)) (.ro part n none) v:=by
 have hav:∀β,avOf σ (lset L l none) β->avOf σ L β:=by
  rintro β (⟨k,d,a,s,hk,hs⟩ | h)
  ·rw [ax] at hk
   split at hk
   ·simp at hk
   ·exact .inl ⟨k,d,a,s,hk,hs⟩
  ·exact .inr h
 have h1:∀β,¬avo A σ L β->¬avo A σ (lset L l none) β:=fun β hn h=>hn (h.imp id (hav β))
 cases h with
 | rwE a hc=>
  have:part=[]:=by rw [<-hp];simp
  subst this
  exact .roE a 0 (by simp)
 | @rw _ _ _ _ _ β add size cap hs hn hc hsz=>
  rcases hb.all l cells hl with ⟨h3,h4⟩ | ⟨β',add',size',c,T,fr,hB⟩
  ·rw [hs] at h3;simp at h3
  ·have:=hB.sig;rw [hs] at this;simp at this
   obtain ⟨rfl,rfl,rfl⟩:=this
   have hlen:part.length=n*sz:=by rw [<-hp];simp;omega
   have hlt:β<w.heap.size:=(Array.getElem?_eq_some_iff.1 hB.heap).1
   have hna:¬avo A σ (lset L l none) β:=by
    rintro (hA | ⟨k,d,a,s,hk,hks⟩ | ⟨q,ad,hq⟩)
    rotate_left 2
    ·exact (hb.fr.fam q β ad hq).2 ⟨l,cells,add,size,hl,hs⟩
    ·exact (hb.lo β hA).2 (.inl ⟨l,cells,add,size,hl,hs⟩)
    ·rw [ax] at hk
     split at hk
     ·simp at hk
     ·rename_i hne;exact hne (hb.inj l k cells d β add size a s hl hk hs hks)
   have get:∀i x,part[i]?=some x->cells[off+i]?=some x:=by
    intro i x hx
    rw [<-hp,List.getElem?_take] at hx
    split at hx
    ·rw [List.getElem?_drop] at hx;exact hx
    ·simp at hx
   let f:Nat->Value:=fun i=>(c[add+off+i]?).getD undef
   refine .ro ((List.range (n*sz)).map f) ⟨hlt,hna,fun i v hv=>?_⟩ (by simp [hlen]) (fun i x v hx hv=>?_) hn (by simp)
   ·have hi:i<n*sz:=by have:=(List.getElem?_eq_some_iff.1 hv).1;simpa using this
    have hi2:i<part.length:=by omega
    obtain ⟨u,h5,h6⟩:=hB.vals _ _ (get i _ (List.getElem?_eq_getElem hi2))
    rw [iv hB.heap]
    rw [<-Nat.add_assoc] at h5
    simp [List.getElem?_range hi,f,h5] at hv
    rw [h5,hv]
   ·have hi:i<n*sz:=by have:=(List.getElem?_eq_some_iff.1 hv).1;simpa using this
    obtain ⟨u,h5,h6⟩:=hB.vals _ _ (get i x hx)
    rw [<-Nat.add_assoc] at h5
    simp [List.getElem?_range hi,f,h5] at hv
    rw [<-hv]
    exact h6.pure (aK hpure hx) h1
theorem Weak.frz {E:Env} {K:Nat->Prop} {al:Al} {L:Lb} {lab:Nat} {cells:List PV} (hl:lget L lab=some (some cells)) {t off n sz:Nat} {co:Option Nat} (ht:lget al t=some (.rw lab off n sz co)) {part ys:List PV}
  (hp:(cells.drop off).take (n*sz)=part) (hin:off+n*sz<=cells.length) (hpu:aq (fun _=>false) part=true) (hle:CLe part ys):Weak E K al L ((t,.ro ys n none)::al) (lset L lab none):=by
 intro A w σ a r
 obtain ⟨hb,hg⟩:=r.blocks.drop lab
 have r':=r.grow hb hg
 refine ⟨σ,⟨fun u x hx=>?_,hb,r'.globals,r'.nodefer⟩,hg.weaken fun _ _=>trivial⟩
 rw [lget] at hx
 split at hx
 ·rename_i e;subst e;simp at hx;subst hx
  obtain ⟨v,h1,h2⟩:=r.tmps t _ ht
  exact ⟨v,h1,PLe.ro hle _ _ _ _ (DP r.blocks hl hp hin hpu h2)⟩
 ·exact r'.tmps u x hx
def dFz {R:Type}:List (Nat×ET)->St->(St->Option R)->Option R
 | [],s,k=>k s
 | (t,e)::r,s,k=>match lget s.al t with
  | some (.rw lab sz off n co w)=>if pH s.L lab=true then srcL s.L e (.rw lab sz off n co w) fun l=>
    dFz r { al:=(t,.sl e l)::s.al,L:=lset s.L lab .gone,ds:=t::s.ds,dl:=(lab,none)::s.dl } k else none
  | some _=>dFz r s k
  | none=>none
section
variable {E:Env} {K:Nat->Prop} {n:Nat} {Q:Exit->Al->Lb->Prop} {ops:Array Oper} {rest:List Oper} {R:Type} {r:R}
theorem D1:∀{fz:List (Nat×ET)} {s:St} {k:St->Option R},dFz fz s k=some r->s.ok->∃s',Up s s'/\s'.ok/\k s'=some r/\Weak E K (dal s.al) (dlb s.L) (dal s'.al) (dlb s'.L)
 | [],s,k,h,hs=>⟨s,.refl s,hs,h,.refl⟩
 | (t,e)::fz,s,k,h,hs=>by
  simp only [dFz] at h
  split at h
  ·rename_i lab sz off n co w ht
   split at h
   ·rename_i hp
    obtain ⟨l,cells,hc,h'⟩:=jC h
    clear h
    obtain ⟨cc,c1,c2,c3,c4,c5⟩:=hc.rw _ _ _ _ _ _ rfl
    subst c5;subst c3
    have hu:Up s { al:=(t,.sl e l)::s.al,L:=lset s.L lab .gone,ds:=t::s.ds,dl:=(lab,none)::s.dl }:=by
     have h1:=BH (s:=s) (wl:=[(lab,.gone)]) (dl:=[(lab,none)]) (fun p hp=>by simp at hp;subst hp;exact .inl (by simp))
     exact h1.trans (ry _ (some t) (.sl e l))
    have ho:St.ok { al:=(t,.sl e l)::s.al,L:=lset s.L lab .gone,ds:=t::s.ds,dl:=(lab,none)::s.dl }:=by
     have h1:=BI hs (wl:=[(lab,.gone)]) (dl:=[(lab,none)]) (fun p hp=>by simp at hp;subst hp;trivial)
     exact rz h1 (d:=some t) (x:=.sl e l) trivial
    have hw:Weak E K (dal s.al) (dlb s.L) (dal ((t,.sl e l)::s.al)) (dlb (lset s.L lab .gone)):=by
     have e1:dlb (lset s.L lab .gone)=lset (dlb s.L) lab none:=(tI DC.pv s.L lab .gone).symm
     rw [e1]
     refine Weak.frz c1 (off:=off*e.sz) (sz:=e.sz) (n:=l.length) (co:=co) (by rw [bI,ht];rfl) c4 c2 ?_ hc.le
     rw [<-c4]
     unfold pH at hp
     split at hp
     ·rename_i c hcc
      rw [aB,hcc] at c1
      exact nD (n5 hp (by simpa using c1)) _ _
     ·simp at hp
    obtain ⟨s',u',o',k',w'⟩:=D1 h' ho
    exact ⟨s',hu.trans u',o',k',hw.trans w'⟩
   ·simp at h
  ·exact D1 h hs
  ·simp at h
def okF (d:DV):Bool:=d.labs noF&&d.noF
def St.dropF (s:St):St:=
 let ts:=(s.al.filter fun p=>!okF p.2).map (·.1)
 {s with al:=ded ts s.al,ds:=ts++s.ds }
theorem vc {s:St} {p:Nat×DV} (h:p∈s.dropF.al):lget s.al p.1=some p.2/\okF p.2=true:=by
 obtain ⟨h1,h2⟩:=kJ h
 refine ⟨h2,?_⟩
 cases hk:okF p.2 with
 | true=>rfl
 | false=>exact absurd (List.mem_map.2 ⟨(p.1,p.2),List.mem_filter.2 ⟨aw h2,by simp [hk]⟩,rfl⟩) h1
theorem CI (s:St):Up s s.dropF:=fun b h=>⟨fun t ht=>by
 simp only [St.dropF,List.mem_append,not_or] at ht ⊢
 rw [qB ht.1];exact h.sl t ht.2,h.lb,h.ce⟩
theorem yf {s:St} (h:s.ok):s.dropF.ok:=⟨fun t x hx=>h.1 t x (vc (aw hx)).1,h.2⟩
theorem zK (s:St) (t:Nat) (x:PV) (hx:lget (dal s.dropF.al) t=some x):aC noF x=true:=by
 rw [bI] at hx
 cases hd:lget s.dropF.al t with
 | none=>rw [hd] at hx;simp at hx
 | some d=>
  rw [hd] at hx;simp at hx;subst hx
  have:=(vc (aw hd)).2
  simp only [okF,Bool.and_eq_true] at this
  exact jW this.1 (.inl this.2)
theorem ye (s:St):Weak E K (dal s.al) (dlb s.L) (dal s.dropF.al) (dlb s.dropF.L):=Weak.sub fun p hp=>by
 obtain ⟨q,hq,rfl⟩:=List.mem_map.1 hp
 simp only;rw [bI,(vc hq).1];rfl
def sq:Nat->Nat
 | 1=>2
 | 2=>1
 | n=>n
theorem GK (n:Nat):sq (sq n)=n:=by
 match n with
 | 0=>rfl
 | 1=>rfl
 | 2=>rfl
 | n+3=>rfl
def SwC (x y:PV):Prop:=(x=y/\aC noF x=true)\/∃q c n co,x = .fs q c n co/\aq (fun _=>false) c=true/\y = .fs (sq q) c n co
theorem VR.sw {w:World} {σ:Sig} {av:Nat->Prop} {x y:PV} {v:Value} (h:VR w σ av x v) (hs:SwC x y):VR w ⟨σ.lab,fun q β add=>σ.fam (sq q) β add⟩ av y v:=by
 rcases hs with ⟨rfl,hn⟩ | ⟨q,c,n,co,rfl,hc,rfl⟩
 ·exact h.monoN hn (fun _ _ _ h=>h) (Nat.le_refl _) fun _ _ h=>⟨h,rfl⟩
 ·cases h with
  | fsE a cap hc=>exact .fsE a cap hc
  | fs hf hh hfr hl hv hn hc' hz=>exact .fs (by simpa [GK] using hf) hh hfr hl (fun i x v hx hv'=>(hv i x v hx hv').pure (aK hc hx) fun _ h=>h) hn hc' hz
theorem Weak.recol {al:Al} {L L':Lb} (hal:∀t x,lget al t=some x->aC noF x=true) (hK:¬K dN) (hG:GOK E)
  (hL:∀l,(lget L l=none/\lget L' l=none)\/(lget L l=some none/\lget L' l=some none)\/∃xs ys,lget L l=some (some xs)/\lget L' l=some (some ys)/\xs.length=ys.length/\∀(i:Nat) (x y:PV),xs[i]?=some x->ys[i]?=some y->SwC x y):Weak E K al L al L':=by
 intro A w σ a r
 let σ':Sig:=⟨σ.lab,fun q β add=>σ.fam (sq q) β add⟩
 have hlav:∀β,cG σ' L' β<->cG σ L β:=by
  intro β
  constructor
  ·rintro ⟨l,c,a,s,h1,h2⟩
   rcases hL l with ⟨_,h⟩ | ⟨_,h⟩ | ⟨xs,ys,h,h',_⟩
   ·rw [h] at h1;simp at h1
   ·rw [h] at h1;simp at h1
   ·exact ⟨l,xs,a,s,h,h2⟩
  ·rintro ⟨l,c,a,s,h1,h2⟩
   rcases hL l with ⟨h,_⟩ | ⟨h,_⟩ | ⟨xs,ys,h,h',_⟩
   ·rw [h] at h1;simp at h1
   ·rw [h] at h1;simp at h1
   ·exact ⟨l,ys,a,s,h',h2⟩
 have hfm:∀β,vM σ' β<->vM σ β:=fun β=>⟨fun ⟨q,ad,h⟩=>⟨sq q,ad,h⟩,fun ⟨q,ad,h⟩=>⟨sq q,ad,by show σ.fam (sq (sq q)) β ad;rw [GK];exact h⟩⟩
 have hav:∀β,avOf σ' L' β<->avOf σ L β:=fun β=>or_congr (hlav β) (hfm β)
 have havo:avo A σ' L'=avo A σ L:=by
  funext β
  show (A β\/avOf σ' L' β)=(A β\/avOf σ L β)
  rw [propext (hav β)]
 have hsw:∀{x y v},VR w σ (avo A σ L) x v->SwC x y->VR w σ' (avo A σ' L') y v:=fun h hs=>by rw [havo];exact h.sw hs
 refine ⟨σ',⟨fun t x hx=>let ⟨v,h1,h2⟩:=r.tmps t x hx;⟨v,h1,hsw h2 (.inl ⟨rfl,hal t x hx⟩)⟩,⟨?_,?_,?_,?_,?_⟩,fun g cells hg=>hsw (r.globals g cells hg) (.inl ⟨rfl,sr (by simp [j9,aC,hG g cells hg])⟩),r.nodefer⟩,
  ⟨Nat.le_refl _,fun _ _ _ h=>h,fun β _ hn=>⟨fun h=>hn ((hav β).1 h),rfl⟩,⟨rfl,rfl,rfl⟩,fun k=>absurd k hK⟩⟩
 ·intro l ys hl
  rcases hL l with ⟨_,h⟩ | ⟨_,h⟩ | ⟨xs,ys',h1,h2,h3,h4⟩
  ·rw [h] at hl;simp at hl
  ·rw [h] at hl;simp at hl
  ·rw [h2] at hl;simp at hl;subst hl
   rcases r.blocks.all l xs h1 with ⟨h5,h6⟩ | ⟨β,add,size,c,T,fr,hB⟩
   ·exact .inl ⟨h5,by subst h6;exact List.eq_nil_of_length_eq_zero h3.symm⟩
   ·refine .inr ⟨β,add,size,c,T,fr,⟨hB.sig,hB.heap,hB.hsz,h3▸hB.fits,fun i y hy=>?_,hB.frs⟩⟩
    have hi:i<xs.length:=by rw [h3];exact (List.getElem?_eq_some_iff.1 hy).1
    obtain ⟨v,h7,h8⟩:=hB.vals i _ (List.getElem?_eq_getElem hi)
    exact ⟨v,h7,hsw h8 (h4 i _ y (List.getElem?_eq_getElem hi) hy)⟩
 ·intro l l' c c' β a s a' s' h1 h2 h3 h4
  rcases hL l with ⟨_,h5⟩ | ⟨_,h5⟩ | ⟨xs,_,h5,_⟩
  ·rw [h5] at h1;simp at h1
  ·rw [h5] at h1;simp at h1
  ·rcases hL l' with ⟨_,h6⟩ | ⟨_,h6⟩ | ⟨xs',_,h6,_⟩
   ·rw [h6] at h2;simp at h2
   ·rw [h6] at h2;simp at h2
   ·exact r.blocks.inj l l' xs xs' β a s a' s' h5 h6 h3 h4
 ·intro l x hx
  have:=r.blocks.dom l x hx
  rcases hL l with ⟨h,_⟩ | ⟨_,h⟩ | ⟨_,_,_,h,_⟩
  ·exact absurd h this
  ·rw [h];simp
  ·rw [h];simp
 ·intro β hA
  exact ⟨(r.blocks.lo β hA).1,fun h=>(r.blocks.lo β hA).2 ((hav β).1 h)⟩
 ·refine ⟨fun q β add h=>⟨(r.blocks.fr.fam _ β add h).1,fun k=>(r.blocks.fr.fam _ β add h).2 ((hlav β).1 k)⟩,fun q β add h=>r.blocks.fr.cel _ β add h,fun q q' β add add' h h'=>?_⟩
  obtain ⟨e1,e2⟩:=r.blocks.fr.one _ _ β add add' h h'
  refine ⟨?_,e2⟩
  have:=congrArg sq e1
  simpa [GK] using this
def famQ:(t:ET)->List t.T->Option DC
 | .tf q t,x=>if t.noF=true then some (.ls (.tf (sq q) t) x) else none
 | _,_=>none
def swW (L:DLb):DLb->Option DLb
 | []=>some []
 | (l,_)::r=>match lget L l with
  | some (.ls t x)=>match famQ t x with
   | some c=>match swW L r with
    | some wl=>some ((l,c)::wl)
    | none=>none
   | none=>if t.noF=true then swW L r else none
  | some c=>if zN c=true then swW L r else none
  | none=>swW L r
def SwD (c c':DC):Prop:=(c=c'/\zN c=true)\/∃t x,c = .ls t x/\famQ t x=some c'
theorem uA {L:DLb}:∀{r wl:DLb},swW L r=some wl->(∀p∈wl,∃c,lget L p.1=some c/\SwD c p.2)/\∀p∈r,p.1∈keys wl\/∀c,lget L p.1=some c->zN c=true
 | [],wl,h=>by simp [swW] at h;subst h;simp
 | (l,_)::r,wl,h=>by
  simp only [swW] at h
  split at h
  ·rename_i t x hl
   split at h
   ·rename_i c hc
    split at h
    ·rename_i wl' hw
     simp at h;subst h
     obtain ⟨h1,h2⟩:=uA hw
     refine ⟨fun p hp=>?_,fun p hp=>?_⟩
     ·rcases List.mem_cons.1 hp with rfl | hp
      ·exact ⟨_,hl,.inr ⟨t,x,rfl,hc⟩⟩
      ·exact h1 p hp
     ·rcases List.mem_cons.1 hp with rfl | hp
      ·exact .inl (by simp [keys])
      ·exact (h2 p hp).imp (fun h=>by simp only [keys,List.map_cons,List.mem_cons];exact .inr h) id
    ·simp at h
   ·split at h
    ·rename_i ht
     obtain ⟨h1,h2⟩:=uA h
     refine ⟨h1,fun p hp=>?_⟩
     rcases List.mem_cons.1 hp with rfl | hp
     ·exact .inr fun c hc=>by simp only at hc;rw [hl] at hc;simp at hc;subst hc;exact ht
     ·exact h2 p hp
    ·simp at h
  ·rename_i c hcn hl
   split at h
   ·rename_i hd
    obtain ⟨h1,h2⟩:=uA h
    refine ⟨h1,fun p hp=>?_⟩
    rcases List.mem_cons.1 hp with rfl | hp
    ·exact .inr fun c hc=>by simp only at hc;rw [hl] at hc;simp at hc;subst hc;exact hd
    ·exact h2 p hp
   ·simp at h
  ·rename_i hl
   obtain ⟨h1,h2⟩:=uA h
   refine ⟨h1,fun p hp=>?_⟩
   rcases List.mem_cons.1 hp with rfl | hp
   ·exact .inr fun c hc=>by simp only at hc;rw [hl] at hc;simp at hc
   ·exact h2 p hp
theorem Fv {c c':DC} (h:SwD c c'):(c.pv=none/\c'.pv=none)\/∃xs ys,c.pv=some xs/\c'.pv=some ys/\xs.length=ys.length/\∀(i:Nat) (x y:PV),xs[i]?=some x->ys[i]?=some y->SwC x y:=by
 rcases h with ⟨rfl,h⟩ | ⟨t,x,rfl,h⟩
 ·cases hc:c.pv with
  | none=>exact .inl ⟨rfl,rfl⟩
  | some xs=>exact .inr ⟨xs,xs,rfl,rfl,rfl,fun i x y hx hy=>.inl ⟨by rw [hx] at hy;simpa using hy,aK (CK h hc) hx⟩⟩
 ·right
  unfold famQ at h
  split at h
  ·rename_i q t x
   split at h
   ·rename_i ht
    simp at h;subst h
    refine ⟨_,_,rfl,rfl,?_,fun i a b ha hb=>?_⟩
    ·rw [bM,bM,jz,jz];rfl
    ·have e1:∀q (l:List (List t.T)),fl (el (.tf q t)) l=l.map fun x=>PV.fs q (fl (el t) x) x.length none:=fun q l=>by
      induction l with
      | nil=>rfl
      | cons x l ih=>rw [eZ,ih];rfl
     rw [e1] at ha hb
     simp only [List.getElem?_map,Option.map_eq_some_iff] at ha hb
     obtain ⟨z,hz,rfl⟩:=ha
     obtain ⟨z',hz',rfl⟩:=hb
     have hz2:(x:List (List t.T))[i]?=some z':=hz'
     rw [hz] at hz2;simp at hz2;subst hz2
     exact .inr ⟨_,_,_,_,rfl,iJ ht z,rfl⟩
   ·simp at h
  ·simp at h
theorem GH {s:St} {wl:DLb} (h:swW s.L s.L=some wl) (hal:∀t x,lget (dal s.al) t=some x->aC noF x=true) (hK:¬K dN) (hG:GOK E) :
  Weak E K (dal s.al) (dlb s.L) (dal s.al) (dlb (lupd s.L wl)):=by
 obtain ⟨h1,h2⟩:=uA h
 refine Weak.recol hal hK hG fun l=>?_
 rw [aB,aB]
 have key:∀{c c'},lget s.L l=some c->lget (lupd s.L wl) l=some c'->SwD c c'->(Option.map DC.pv (lget s.L l)=none/\Option.map DC.pv (lget (lupd s.L wl) l)=none)\/(Option.map DC.pv (lget s.L l)=some none/\Option.map DC.pv (lget (lupd s.L wl) l)=some none)\/∃xs ys,Option.map DC.pv (lget s.L l)=some (some xs)/\Option.map DC.pv (lget (lupd s.L wl) l)=some (some ys)/\xs.length=ys.length/\∀(i:Nat) (x y:PV),xs[i]?=some x->ys[i]?=some y->SwC x y:=by
  intro c c' e1 e2 hs
  rw [e1,e2]
  rcases Fv hs with ⟨h3,h4⟩ | ⟨xs,ys,h3,h4,h5,h6⟩
  ·exact .inr (.inl ⟨by simp [h3],by simp [h4]⟩)
  ·exact .inr (.inr ⟨xs,ys,by simp [h3],by simp [h4],h5,h6⟩)
 rcases jj wl s.L l with ⟨p,hp,rfl,h3⟩ | ⟨h3,h4⟩
 ·obtain ⟨c,h5,h6⟩:=h1 p hp
  exact key h5 h3 h6
 ·cases hc:lget s.L l with
  | none=>exact .inl ⟨rfl,by rw [h4,hc];rfl⟩
  | some c=>
   rw [hc] at key h4
   refine key rfl h4 (.inl ⟨rfl,?_⟩)
   rcases h2 (l,c) (aw hc) with h5 | h5
   ·obtain ⟨p,hp,e⟩:=List.mem_map.1 h5
    exact absurd e (h3 p hp)
   ·exact h5 c hc
def St.swF {R:Type} (s:St) (k:St->Option R):Option R:=match swW s.dropF.L s.dropF.L with
 | some wl=>k (s.dropF.wr wl (wl.map fun p=>(p.1,none)))
 | none=>none
theorem Kj {s:St} {k:St->Option R} (hK:¬K dN) (hG:GOK E) (h:s.swF k=some r) (hs:s.ok):∃s',Up s s'/\s'.ok/\k s'=some r/\Weak E K (dal s.al) (dlb s.L) (dal s'.al) (dlb s'.L):=by
 unfold St.swF at h
 split at h
 ·rename_i wl hw
  refine ⟨_,(CI s).trans (BH fun p hp=>.inl (List.mem_map.2 ⟨p,hp,rfl⟩)),BI (yf hs) fun p hp=>?_,h,(ye s).trans (GH hw (zK s) hK hG)⟩
  obtain ⟨c,h1,h2⟩:=(uA hw).1 p hp
  rcases h2 with ⟨rfl,_⟩ | ⟨t,x,rfl,h2⟩
  ·exact (yf hs).2 _ _ h1
  ·unfold famQ at h2
   split at h2
   ·split at h2
    ·simp at h2;rw [<-h2];trivial
    ·simp at h2
   ·simp at h2
 ·simp at h
def dFzO:List (Nat×ET)->DAl->DLb->DLb->(DAl->DLb->DLb->Option R)->Option R
 | [],al,L,wl,k=>k al L wl
 | (t,e)::r,al,L,wl,k=>match lget al t with
  | some (.rw lab sz off n co w)=>if pH L lab=true then srcL L e (.rw lab sz off n co w) fun l=>dFzO r ((t,.sl e l)::al) (lset L lab .gone) (wl++[(lab,.gone)]) k else none
  | some _=>dFzO r al L wl k
  | none=>none
def SubA (a b:Al):Prop:=∀t y,lget a t=some y->lget b t=some y
def SubB (a b:Lb):Prop:=∀l y,lget a l=some y->lget b l=some y
theorem Ba:∀{fz:List (Nat×ET)} {al:DAl} {L wl:DLb} {k:DAl->DLb->DLb->Option R},dFzO fz al L wl k=some r->alOk al->lbOk L->∃al' L' w0,k al' L' (wl++w0)=some r/\alOk al'/\lbOk L'/\(∀p∈w0,p.2 = .gone/\lget L p.1≠none) /\
  (∀l,lget L' l≠none<->lget L l≠none)/\(∀l cs,lget L' l=some (.cs cs)->lget L l=some (.cs cs)) /\
  ∀A w σ alw Lw a,Rel E A w σ alw Lw a->SubA (dal al) alw->SubB (dlb L) Lw->∃alw' σ',Rel E A w σ' alw' (lupd Lw (dlb w0)) a/\SubA (dal al') alw'/\SubB (dlb L') (lupd Lw (dlb w0))/\Grow top w σ Lw w σ' (lupd Lw (dlb w0))
 | [],al,L,wl,k,h,ha,hl=>⟨al,L,[],by simpa [dFzO] using h,ha,hl,by simp,fun _=>Iff.rfl,fun _ _ h=>h,fun A w σ alw Lw a r h1 h2=>⟨alw,σ,r,h1,h2,Grow.refl _ _ _ _⟩⟩
 | (t,e)::fz,al,L,wl,k,h,ha,hl=>by
  simp only [dFzO] at h
  split at h
  ·rename_i lab sz off n co w ht
   split at h
   ·rename_i hp
    obtain ⟨l,cells,hc,h'⟩:=jC h
    obtain ⟨cc,c1,c2,c3,c4,c5⟩:=hc.rw _ _ _ _ _ _ rfl
    subst c5;subst c3
    have hex:lget L lab≠none:=fun e=>by rw [aB,e] at c1;simp at c1
    obtain ⟨al',L',w0,k1,k2,k3,k4,k5,k6,k7⟩:=Ba h' (fun u x hx=>by
     simp only [lget] at hx
     split at hx
     ·simp at hx;subst hx;trivial
     ·exact ha u x hx) (fun u c hc=>by
     rw [ax] at hc
     split at hc
     ·simp at hc;subst hc;trivial
     ·exact hl u c hc)
    refine ⟨al',L',(lab,.gone)::w0,by simpa using k1,k2,k3,fun p hp=>?_,fun l'=>?_,fun l' cs hcs=>?_,fun A w σ alw Lw a r h1 h2=>?_⟩
    ·rcases List.mem_cons.1 hp with rfl | hp
     ·exact ⟨rfl,hex⟩
     ·obtain ⟨e1,e2⟩:=k4 p hp
      refine ⟨e1,?_⟩
      rw [ax] at e2
      split at e2
      ·rename_i e;rw [<-e];exact hex
      ·exact e2
    ·rw [k5 l',ax]
     split
     ·rename_i e;subst e;simp [hex]
     ·rfl
    ·have:=k6 l' cs hcs
     rw [ax] at this
     split at this
     ·simp at this
     ·exact this
    ·have hw:=Weak.frz (E:=E) (K:=top) (al:=alw) (L:=Lw) (h2 _ _ c1) (off:=off*e.sz) (sz:=e.sz) (n:=l.length) (co:=co) (h1 _ _ (by rw [bI,ht];rfl)) c4 c2 (by
      rw [<-c4]
      unfold pH at hp
      split at hp
      ·rename_i c hcc
       rw [aB,hcc] at c1
       exact nD (n5 hp (by simpa using c1)) _ _
      ·simp at hp) hc.le
     obtain ⟨σ1,r1,g1⟩:=hw A w σ a r
     obtain ⟨alw',σ2,r2,s1,s2,g2⟩:=k7 A w σ1 _ _ a r1 (fun u y hy=>by
      rw [bI] at hy
      simp only [lget] at hy ⊢
      split
      ·rename_i e;rw [if_pos e] at hy;simp at hy;rw [<-hy];rfl
      ·rename_i e;rw [if_neg e] at hy;exact h1 u y (by rw [bI];exact hy)) (fun u y hy=>by
      rw [aB,ax] at hy
      rw [ax]
      split
      ·rename_i e;rw [if_pos e] at hy;simpa [DC.pv] using hy
      ·rename_i e;rw [if_neg e] at hy;exact h2 u y (by rw [aB];exact hy))
     exact ⟨alw',σ2,r2,s1,s2,g1.trans g2⟩
   ·simp at h
  ·exact Ba h ha hl
  ·simp at h
def dOpF (E:Env) (G:GTab) (C:CT E) (oh:OH) (o:Oper) (al:DAl) (L:DLb) (nl:Nat) (k:DV->DLb->DL->Option R):Option R:=match oh.fz with
 | []=>dOpX E G C oh o al L nl k
 | fz=>dFzO fz al L [] fun al' L' w0=>dOpX E G C oh o al' L' nl fun x wl dl=>k x (w0++wl) (w0.map (fun p=>(p.1,none))++dl)
theorem Jc {G:GTab} (hG:E.G=gtPV G) (hE:GOK E) {C:CT E} {oh:OH} {o:Oper} {nl:Nat} {ra:DAl} {rl:DLb} {k:DV->DLb->DL->Option R} (hal:alOk ra) (hrl:lbOk rl) (hn:lget rl nl=none) (h:dOpF E G C oh o ra rl nl k=some r):OpS E o ra rl k r:=by
 unfold dOpF at h
 split at h
 ·exact A0 hG hE hal hrl hn h
 ·obtain ⟨al',L',w0,k1,k2,k3,k4,k5,k6,k7⟩:=Ba (E:=E) h hal hrl
  have hn':lget L' nl=none:=by
   cases hc:lget L' nl with
   | none=>rfl
   | some c=>exact absurd hn ((k5 nl).1 (by rw [hc];simp))
  obtain ⟨x,wl,dl,hA,hx,hwl,hd,hk⟩:=A0 hG hE k2 k3 hn' k1
  refine ⟨x,w0++wl,w0.map (fun p=>(p.1,none))++dl,?_,hx,fun p hp=>?_,fun p hp=>?_,by simpa using hk⟩
  ·intro A w σ alw Lw a r h1 h2 h3
   obtain ⟨alw',σ1,r1,s1,s2,g1⟩:=k7 A w σ alw Lw a r h1 h2
   have e1:dlb (w0++wl)=dlb w0++dlb wl:=List.map_append
   refine oX (hA A w σ1 alw' _ a r1 s1 s2 fun p hp=>?_) ?_ fun _ _ _ h=>h
   ·rcases h3 p (by rw [e1];exact List.mem_append_right _ hp) with h4 | h4
    ·left
     rw [aB] at h4 ⊢
     have:lget rl p.1≠none:=fun e=>by rw [e] at h4;simp at h4
     have:=(k5 p.1).2 this
     cases hc:lget L' p.1 with
     | none=>exact absurd hc this
     | some c=>simp
    ·right
     rcases jj (dlb w0) Lw p.1 with ⟨q,hq,e2,_⟩ | ⟨_,e2⟩
     ·exfalso
      obtain ⟨q',hq',rfl⟩:=List.mem_map.1 hq
      have e3:=(k4 q' hq').2
      cases hc:lget rl q'.1 with
      | none=>exact e3 hc
      | some c=>
       have:=h2 q'.1 c.pv (by rw [aB,hc];rfl)
       simp only at e2
       rw [e2,h4] at this;simp at this
     ·rw [e2];exact h4
   ·rintro a' w' ⟨σ',c,f1,f2,f3,f4⟩
    have e2:lupd Lw (dlb (w0++wl))=lupd (lupd Lw (dlb w0)) (dlb wl):=by rw [e1];unfold lupd;rw [List.foldl_append]
    rw [<-e2] at f2 f3 f4
    exact ⟨σ',c,f1,f2,f3,g1.trans f4⟩
  ·rcases List.mem_append.1 hp with hp | hp
   ·rw [(k4 p hp).1];trivial
   ·exact hwl p hp
  ·rcases List.mem_append.1 hp with hp | hp
   ·left;exact List.mem_append_left _ (List.mem_map.2 ⟨p,hp,rfl⟩)
   ·rcases hd p hp with h1 | ⟨cs,cs',e1,e2,e3,e4⟩
    ·exact .inl (List.mem_append_right _ h1)
    ·exact .inr ⟨cs,cs',k6 _ _ e1,e2,e3,fun i hi=>e4 i fun hm=>hi (List.mem_append_right _ hm)⟩
def vb (ops:Array Oper) (al:DAl) (o:Oper):Option Bool:=
 match o.guard with
 | none=>some true
 | some (j,want)=>match (ops[j]?).bind (·.dst) with
  | some d=>match lget al d with
   | some (.bool b)=>some (b==want)
   | some .dead=>some false
   | _=>none
  | none=>none
theorem lQ {al:DAl} {o:Oper} {b:Bool} (h:vb ops al o=some b):iL ops (dal al) o=some b:=by
 unfold vb at h
 unfold iL
 split at h
 ·rename_i hg;rw [hg];exact h
 ·rename_i j want hg
  rw [hg]
  simp only
  split at h
  ·rename_i d hd
   simp only [hd,bI]
   split at h
   ·rename_i c hc;rw [hc];exact h
   ·rename_i hc;rw [hc];exact h
   ·simp at h
  ·simp at h
def Am (sp:Bool) (x:DV) (k:DV->Option R):Option R:=match sp with
 | true=>match x with
  | .bool b=>cond b (k (.bool true)) (k (.bool false))
  | x=>k x
 | false=>k x
theorem zf {sp:Bool} {x:DV} {k:DV->Option R} (h:Am sp x k=some r):k x=some r:=by
 unfold Am at h
 split at h
 ·split at h
  ·rename_i b;cases b <;> exact h
  ·exact h
 ·exact h
theorem qX {P:Program} {w:World} {T e:TypeId} (hu:P.underlying T=some (.slice e)) (D:Nat) (p:Option Addr) (n c:Nat):(Op.equalIn (D+1) T (.slice p n c) (.slice none 0 0)).run P w = .ok p.isNone w:=by
 cases p <;> simp [Op.equalIn,run_underlying hu]
theorem In {al:Al} {L:Lb} {d:Option Tmp} {T yt e ty:TypeId} {pos:String} {after:Array Edge} {g:Option (Nat×Bool)} {x y:Operand} {cells:List PV} {m:Nat} {co:Option Nat} (hu:E.P.underlying T=some (.slice e)) (hx:xev E.G al x=some (.ro cells m co)) (hy:xev E.G al y=some .nils)
  (hd:∀t,d=some t->t<n) (hg:iL ops al ⟨d,.binOp .eql T x y yt,ty,pos,after,g⟩=some true) (k:∀b:Bool,(b=true->m=0)->AWl E K n ops rest Q (oset d (.bool b) al) L) :
  AWl E K n ops (⟨d,.binOp .eql T x y yt,ty,pos,after,g⟩::rest) Q al L:=by
 intro A w σ a r t
 have hvx:=aX r (fun _ _ h=>h) hx
 have hvy:=aX r (fun _ _ h=>h) hy
 obtain ⟨b,hb,hrun⟩:∃b:Bool,(b=true->m=0)/\(execOp a.eval ⟨d,.binOp .eql T x y yt,ty,pos,after,g⟩).run E.P w = .ok (.value (.bool b)) w:=by
  generalize hv:a.eval x=v at *
  generalize hv':a.eval y=v' at *
  cases hvy
  cases hvx with
  | roE p cap hc=>
   refine ⟨p.isNone,fun _=>rfl,?_⟩
   have he:(Op.equal T (.slice p 0 cap) (.slice none 0 0)).run E.P w = .ok p.isNone w:=qX hu 9999 p 0 cap
   have h1:=ny (P:=E.P) (w:=w) (op:=.eql) (.inl rfl) (T:=T) (u:=.slice p 0 cap) (v:=.slice none 0 0) rfl he
   have h2:=lY (P:=E.P) (w:=w) (op:=.eql) (T:=T) (x:=x) (y:=y) (u:=.slice p 0 cap) (v:=.slice none 0 0) rfl
   simp at h1
   simp [execOp,hv,hv',h1,h2]
  | @ro _ _ _ β add cap cs him hl hv2 hn hc=>
   refine ⟨false,fun h=>by simp at h,?_⟩
   have he:(Op.equal T (.slice (some ⟨β,add,none⟩) m cap) (.slice none 0 0)).run E.P w = .ok false w:=qX hu 9999 _ m cap
   have h1:=ny (P:=E.P) (w:=w) (op:=.eql) (.inl rfl) (T:=T) (u:=.slice (some ⟨β,add,none⟩) m cap) (v:=.slice none 0 0) rfl he
   have h2:=lY (P:=E.P) (w:=w) (op:=.eql) (T:=T) (x:=x) (y:=y) (u:=.slice (some ⟨β,add,none⟩) m cap) (v:=.slice none 0 0) rfl
   simp at h1
   simp [execOp,hv,hv',h1,h2]
 have hop:Oper.wp E.P ⟨d,.binOp .eql T x y yt,ty,pos,after,g⟩ a w (If A w σ L a d (.bool b) []) (fun _ _ _=>False):=by
  unfold Oper.wp
  rw [hrun]
  exact ⟨σ,.bool b,rfl,.bool b,r.blocks,Grow.refl _ _ _ _⟩
 simp only [wpListIn]
 rw [if_pos (lT r hg)]
 refine ib (qE (uQ hop ?_) hop) ?_ fun _ _ _ h=>h.elim
 ·rintro a' w' ⟨σ',c,rfl,_⟩;exact oC _ _ _
 rintro a' w' ⟨σ',c,rfl,hv,hb',hgr⟩
 have r':=(r.grow hb' hgr).put (d:=d) (fun u hu=>by rw [t];exact hd u hu) hv
 refine dF ?_ _ _ _ (k b hb A w' σ' _ r' (by rw [lX];exact t))
 exact fun e a w h=>Post.trans (hgr.weaken fun _ _=>trivial) h
def p6 (a b:Option R):Option R:=open Classical in if a=b then a else none
@[simp] theorem Eh (a:Option R):p6 a a=a:=by simp [p6]
theorem Ib {a b:Option R} (h:p6 a b=some r):a=some r/\b=some r:=by
 unfold p6 at h
 split at h
 ·rename_i e;exact ⟨h,e▸h⟩
 ·simp at h
def J1 (P:Program) (G:GTab) (al:DAl) (o:Oper):Option Bool:=match o.op with
 | .binOp .eql T x y _=>match P.underlying T with
  | some (.slice _)=>match dev G al x with
   | some (.sl _ l)=>match dev G al y with
    | some .nils=>some l.isEmpty
    | _=>none
   | _=>none
  | _=>none
 | _=>none
abbrev OHs:=List (Nat×OH)
def ohOf (hs:OHs) (i:Nat):OH:=match lget hs i with
 | some h=>h
 | none=>{}
def dOps (E:Env) (G:GTab) (C:CT E) (n:Nat) (kf:Bool) (hs:OHs) (ops:Array Oper) {R:Type}:List Oper->Nat->St->(St->Option R)->Option R
 | [],_,s,k=>k s
 | o::rest,i,s,k=>match vb ops s.al o with
  | some true=>match (ohOf hs i).nq with
   | true=>match J1 E.P G s.al o with
    | some e=>if lB n o.dst=true then cond e (p6 (dOps E G C n kf hs ops rest (i+1) (s.set o.dst (.bool true)) k) (dOps E G C n kf hs ops rest (i+1) (s.set o.dst (.bool false)) k)) (dOps E G C n kf hs ops rest (i+1) (s.set o.dst (.bool false)) k) else none
    | none=>none
   | false=>match (ohOf hs i).wk with
    | false=>dFz (ohOf hs i).fz s fun s=>match vb ops s.al o with
     | some true=>if lB n o.dst=true then dOpX E G C (ohOf hs i) o s.al s.L (frOf s.L) fun x wl dl=>Am (ohOf hs i).split x fun x=>dOps E G C n kf hs ops rest (i+1) ((s.wr wl dl).set o.dst x) k else none
     | _=>none
    | true=>match vb ops s.dropF.al o with
     | some true=>match (ohOf hs i).io with
      | some j=>if lB n o.dst=true/\kf=true then Bb true G (C.i j) o s.dropF.al s.dropF.L (frOf s.dropF.L) fun x wl dl=>dOps E G C n kf hs ops rest (i+1) ((s.dropF.wr wl dl).set o.dst x) k else none
      | none=>none
     | _=>none
  | some false=>if lB n o.dst=true then dOps E G C n kf hs ops rest (i+1) (s.set o.dst .dead) k else none
  | none=>none
theorem ua {G:GTab} {C:CT E} {hs:OHs} {kf:Bool} (hkf:kf=true->¬K dN) (hG:E.G=gtPV G) (hE:GOK E):∀{rest:List Oper} {i:Nat} {s:St} {k:St->Option R},dOps E G C n kf hs ops rest i s k=some r->s.ok ->
  (∀s',Up s s'->s'.ok->k s'=some r->Q .normal (dal s'.al) (dlb s'.L))->AWl E K n ops rest Q (dal s.al) (dlb s.L)
 | [],i,s,k,h,ho,hq=>qF (hq s (.refl s) ho h)
 | o::rest,i,s,k,h,ho,hq=>by
  simp only [dOps] at h
  split at h
  ·rename_i hw
   split at h
   ·split at h
    rotate_left
    ·simp at h
    rename_i e he
    split at h
    rotate_left
    ·simp at h
    rename_i hdst
    have go:∀b,dOps E G C n kf hs ops rest (i+1) (s.set o.dst (.bool b)) k=some r->AWl E K n ops rest Q (oset o.dst (.bool b) (dal s.al)) (dlb s.L):=by
     intro b hb
     have ih:=ua hkf hG hE hb (rz ho (d:=o.dst) (x:=.bool b) trivial) fun s' u' o' k'=>hq s' ((ry _ _ _).trans u') o' k'
     rw [qC,qy] at ih
     exact ih
    obtain ⟨dst,op,ty,pos,after,g⟩:=o
    unfold J1 at he
    simp only at he
    split at he
    ·rename_i T x y yt
     split at he
     ·rename_i eT hu
      split at he
      ·rename_i tt l hx
       split at he
       ·rename_i hy
        simp at he;subst he
        have hx':=(bT ho.1 hx).1
        have hy':=(bT ho.1 hy).1
        rw [<-hG] at hx' hy'
        refine In hu hx' hy' (k9 hdst) (lQ hw) fun b hb=>?_
        cases hl:l.isEmpty with
        | true=>
         rw [hl] at h
         obtain ⟨h1,h2⟩:=Ib h
         cases b with
         | true=>exact go true h1
         | false=>exact go false h2
        | false=>
         rw [hl] at h
         cases b with
         | true=>
          have:l.length=0:=hb rfl
          have:l=[]:=List.eq_nil_of_length_eq_zero this
          subst this;simp at hl
         | false=>exact go false h
       ·simp at he
      ·simp at he
     ·simp at he
    ·simp at he
   split at h
   rotate_left
   ·-- families' blocks may be written
    split at h
    rotate_left
    ·simp at h
    rename_i hw1
    have hw1:=lQ hw1
    split at h
    rotate_left
    ·simp at h
    split at h
    rotate_left
    ·simp at h
    rename_i hc
    obtain ⟨hdst,hkf'⟩:=hc
    have hKf:=hkf hkf'
    have o1:s.dropF.ok:=yf ho
    obtain ⟨x,wl,dl,hA,hx,hwl,hd,h⟩:=zP (wk:=true) hG hE o1.1 o1.2 h
    have u2:Up s.dropF ((s.dropF.wr wl dl).set o.dst x):=(BH hd).trans (ry _ _ _)
    have o2:((s.dropF.wr wl dl).set o.dst x).ok:=rz (BI o1 hwl) hx
    have ih:=ua hkf hG hE h o2 fun s' u' o' k'=>hq s' ((CI s).trans (u2.trans u')) o' k'
    rw [qC,qy] at ih
    refine uk (ye s) (JC hA hE (zK s) hKf (fun l cells h1 h2=>by rw [h1] at h2;simp at h2) (k9 hdst) (fun _ _ h=>h) (fun _ _ h=>h) (fun p _=>?_) hw1 ?_)
    ·cases h:lget (dlb s.dropF.L) p.1 with
     | none=>exact .inr rfl
     | some y=>exact .inl (by simp)
    ·rw [xE];exact ih
   obtain ⟨s1,u1,o1,h,w1⟩:=D1 (E:=E) (K:=K) h ho
   split at h
   rotate_left
   ·simp at h
   rename_i hw1
   have hw1:=lQ hw1
   split at h
   rotate_left
   ·simp at h
   rename_i hdst
   obtain ⟨x,wl,dl,hA,hx,hwl,hd,h⟩:=A0 hG hE o1.1 o1.2 (wz (Nat.le_refl _)) h
   have h:=zf h
   have u2:Up s1 ((s1.wr wl dl).set o.dst x):=(BH hd).trans (ry _ _ _)
   have o2:((s1.wr wl dl).set o.dst x).ok:=rz (BI o1 hwl) hx
   have ih:=ua hkf hG hE h o2 fun s' u' o' k'=>hq s' (u1.trans (u2.trans u')) o' k'
   rw [qC,qy] at ih
   refine uk w1 (qa hA (k9 hdst) (fun _ _ h=>h) (fun _ _ h=>h) (fun p _=>?_) hw1 ?_)
   ·cases h:lget (dlb s1.L) p.1 with
    | none=>exact .inr rfl
    | some y=>exact .inl (by simp)
   ·rw [xE];exact ih
  ·rename_i hw
   split at h
   ·rename_i hdst
    have ih:=ua hkf hG hE h (rz ho (d:=o.dst) (x:=.dead) trivial) fun s' u' o' k'=>hq s' ((ry _ _ _).trans u') o' k'
    rw [qC,qy] at ih
    exact C5 (lQ hw) (k9 hdst) ih
   ·simp at h
  ·simp at h
end
end Go.SH
namespace Go.SH
theorem Jm (m i:Nat):bitB m i=m.testBit i:=by
 unfold bitB
 rw [Jn,Nat.testBit_eq_decide_div_mod_eq]
 congr 1
 show ((m >>> i) % 2=1)=_
 rw [Nat.shiftRight_eq_div_pow]
theorem xD (acc:List Nat):∀(es:List Nat) (i:Nat),(oK acc es).testBit i=true->i∈es\/∃k∈es,(acc.getD k 0).testBit i=true
 | [],i,h=>by simp [oK] at h
 | k::r,i,h=>by
  have e:oK acc (k::r)=((1 <<< k) ||| (acc.getD k 0)) ||| oK acc r:=rfl
  rw [e,Nat.testBit_or,Nat.testBit_or,Bool.or_eq_true,Bool.or_eq_true] at h
  rcases h with (h | h) | h
  ·left
   rw [Nat.one_shiftLeft,Nat.testBit_two_pow] at h
   simp at h
   subst h;simp
  ·exact .inr ⟨k,by simp,h⟩
  ·rcases xD acc r i h with h | ⟨q,hq,h⟩
   ·exact .inl (by simp [h])
   ·exact .inr ⟨q,by simp [hq],h⟩
theorem uU:∀(os:List Oper) (acc:List Nat) (j:Nat),j<acc.length->(o9 os acc)[j]?=acc[j]?
 | [],acc,j,_=>rfl
 | o::r,acc,j,h=>by
  rw [o9,uU r _ j (by simp;omega),List.getElem?_append_left h]
theorem Cq:∀(os:List Oper) (acc:List Nat) (j:Nat) (o:Oper),os[j]?=some o->∃acc',acc'.length=acc.length+j/\(∀i,i<acc'.length->acc'[i]?=(o9 os acc)[i]?)/\(o9 os acc)[acc.length+j]?=some (oK acc' (jh o))
 | [],acc,j,o,h=>by simp at h
 | o'::r,acc,0,o,h=>by
  simp at h;subst h
  refine ⟨acc,by simp,fun i hi=>by rw [o9,uU r _ i (by simp;omega),List.getElem?_append_left hi],?_⟩
  rw [o9,uU r _ _ (by simp),List.getElem?_append_right (by omega)];simp
 | o'::r,acc,j+1,o,h=>by
  simp at h
  obtain ⟨acc',h1,h2,h3⟩:=Cq r (acc++[oK acc (jh o')]) j o h
  refine ⟨acc',by rw [h1];simp;omega,fun i hi=>by rw [h2 i hi];rfl,?_⟩
  have e:acc.length+(j+1)=(acc++[oK acc (jh o')]).length+j:=by simp;omega
  rw [e];exact h3
theorem xC {ops:Array Oper}:∀(m j i:Nat),j<m->j<ops.size->((o9 ops.toList []).getD j 0).testBit i=true->i∈befs ops m j
 | 0,j,i,h,_,_=>by omega
 | m+1,j,i,h,hj,hb=>by
  have ho:ops.toList[j]?=some ops[j]:=by simp [hj]
  obtain ⟨acc',h1,h2,h3⟩:=Cq ops.toList [] j _ ho
  simp only [List.length_nil,Nat.zero_add] at h1 h3
  rw [List.getD_eq_getElem?_getD,h3,Option.getD_some] at hb
  unfold befs
  have ho2:ops[j]?=some ops[j]:=by simp [hj]
  rw [ho2]
  simp only [List.mem_append,List.mem_flatMap]
  rcases xD acc' _ i hb with h' | ⟨k,hk,hb'⟩
  ·exact .inl h'
  ·right
   have hkl:k<acc'.length:=by
    rcases Nat.lt_or_ge k acc'.length with h | h
    ·exact h
    ·rw [List.getD_eq_getElem?_getD,List.getElem?_eq_none h] at hb';simp at hb'
   refine ⟨k,hk,xC m k i (by omega) (by omega) ?_⟩
   rw [List.getD_eq_getElem?_getD,<-h2 k hkl,<-List.getD_eq_getElem?_getD];exact hb'
theorem I2 {l:List Nat} {x:Nat}:hasN l x=true<->x∈l:=by
 unfold hasN
 rw [List.any_eq_true]
 constructor
 ·rintro ⟨y,hy,h⟩;rw [Nat.beq_eq] at h;subst h;exact hy
 ·intro h;exact ⟨x,h,by rw [Nat.beq_eq]⟩
theorem nO {a b:List Nat} (h:pN a b=false) {x:Nat} (ha:x∈a) (hb:x∈b):False:=by
 have:pN a b=true:=by unfold pN;rw [List.any_eq_true];exact ⟨x,ha,I2.2 hb⟩
 rw [h] at this;simp at this
theorem zo (mk:List Nat) (j:Nat) (rj wj:List Nat):∀(xs:List (List Nat×List Nat)) (s i:Nat) (ri wi:List Nat),xu mk j rj wj xs s=true->xs[i]?=some (ri,wi) ->
  bitB (mk.getD j 0) (s+i)=true\/(pN wi (rj++wj)=false/\pN wj ri=false)
 | [],s,i,ri,wi,_,h=>by simp at h
 | (ri',wi')::r,s,0,ri,wi,hp,h=>by
  simp at h;obtain ⟨rfl,rfl⟩:=h
  simp only [xu,Bool.and_eq_true,Bool.or_eq_true,Bool.not_eq_true',Bool.or_eq_false_iff] at hp
  exact hp.1
 | (ri',wi')::r,s,i+1,ri,wi,hp,h=>by
  simp only [xu,Bool.and_eq_true] at hp
  have:=zo mk j rj wj r (s+1) i ri wi hp.2 (by simpa using h)
  rwa [show s+1+i=s+(i+1) by omega] at this
theorem Bs (mk:List Nat):∀(xs pre:List (List Nat×List Nat)) (s i j:Nat) (ri wi rj wj:List Nat),allS mk pre xs s=true->pre.length=s->i<s+j->(pre++xs)[i]?=some (ri,wi)->xs[j]?=some (rj,wj) ->
  bitB (mk.getD (s+j) 0) i=true\/(pN wi (rj++wj)=false/\pN wj ri=false)
 | [],pre,s,i,j,ri,wi,rj,wj,_,_,_,_,h=>by simp at h
 | (rj',wj')::r,pre,s,i,0,ri,wi,rj,wj,ha,hl,hi,h1,h2=>by
  simp at h2;obtain ⟨rfl,rfl⟩:=h2
  simp only [allS,Bool.and_eq_true] at ha
  rw [List.getElem?_append_left (by omega)] at h1
  have:=zo mk s rj' wj' pre 0 i ri wi ha.1 h1
  simpa using this
 | (rj',wj')::r,pre,s,i,j+1,ri,wi,rj,wj,ha,hl,hi,h1,h2=>by
  simp only [allS,Bool.and_eq_true] at ha
  have:=Bs mk r (pre++[(rj',wj')]) (s+1) i j ri wi rj wj ha.2 (by simp;omega) (by omega) (by rw [List.append_assoc];exact h1) (by simpa using h2)
  rwa [show s+1+j=s+(j+1) by omega] at this
end Go.SH
namespace Go.SH
theorem zU {a b:List Lc} (h:vR a b=true):∃l,l∈a/\l∈b:=by
 simp only [vR,List.any_eq_true] at h
 obtain ⟨x,hx,y,hy,he⟩:=h
 simp at he;subst he
 exact ⟨x,hx,hy⟩
theorem memW {o:Oper} {f:Fp} {x:Lc} (h:x∈(fpW o f).map (·.1)):(∃d,x = .inl d/\d∈wrS o)\/∃l,x = .inr l/\l∈wrL f:=by
 unfold fpW at h
 rw [List.map_append,List.mem_append] at h
 rcases h with h | h
 ·left
  unfold wrS
  cases hd:o.dst with
  | none=>rw [hd] at h;simp at h
  | some d=>rw [hd] at h;simp at h;exact ⟨d,h,by simp⟩
 ·right
  unfold wrL
  cases hr:f.run with
  | false=>rw [hr] at h;simp at h
  | true=>
   rw [hr] at h
   simp only [if_true,List.map_map,List.mem_map,Function.comp] at h
   obtain ⟨p,hp,rfl⟩:=h
   exact ⟨p.1,rfl,by simp only [if_true];exact List.mem_map_of_mem hp⟩
theorem memR {ops:Array Oper} {o:Oper} {f:Fp} {x:Lc} (hra:∀p∈f.ra,p.1∈dG (jS o.op)) (h:x∈(fpR ops o f).map (·.1)):(∃d,x = .inl d/\d∈rdS ops o)\/∃l,x = .inr l/\l∈rdL f:=by
 unfold fpR at h
 rw [List.map_append,List.mem_append] at h
 rcases h with h | h
 ·left
  unfold rdS
  cases hd:pR ops o with
  | none=>rw [hd] at h;simp at h
  | some d=>rw [hd] at h;simp at h;exact ⟨d,h,by simp⟩
 ·cases hr:f.run with
  | false=>rw [hr] at h;simp at h
  | true=>
   rw [hr] at h
   simp only [if_true,List.map_append,List.map_map,List.mem_append,List.mem_map,Function.comp] at h
   rcases h with (⟨p,hp,rfl⟩ | ⟨p,hp,rfl⟩) | ⟨l,hl,rfl⟩
   ·exact .inl ⟨p.1,rfl,by unfold rdS;exact List.mem_append.2 (.inr (hra p hp))⟩
   ·exact .inr ⟨p.1,rfl,by unfold rdL;rw [if_pos hr];exact List.mem_append.2 (.inl (List.mem_map_of_mem hp))⟩
   ·exact .inr ⟨l,rfl,by unfold rdL;rw [if_pos hr];exact List.mem_append.2 (.inr hl)⟩
theorem Hn {ops:Array Oper} {fs:List Fp} (hlen:fs.length=ops.size) (hS:AL ops=true) (hD:pureL fs=true\/AM ops fs=true)
  (hra:∀(i:Nat) (o:Oper) (f:Fp),ops[i]?=some o->fs[i]?=some f->∀p∈f.ra,p.1∈dG (jS o.op)):Ho ops fs=true:=by
 unfold Ho
 simp only [List.all_eq_true,List.mem_range]
 intro j hj i hi
 have hin:i<ops.size:=by omega
 have h1:ops[i]?=some ops[i]:=by simp [hin]
 have h2:fs[i]?=some fs[i]:=by simp [hlen,hin]
 have h3:ops[j]?=some ops[j]:=by simp [hj]
 have h4:fs[j]?=some fs[j]:=by simp [hlen,hj]
 have ri:=hra i _ _ h1 h2
 have rj:=hra j _ _ h3 h4
 have s1:(ops.toList.map fun o=>(rdS ops o,wrS o))[i]?=some (rdS ops ops[i],wrS ops[i]):=by simp [hin]
 have s2:(ops.toList.map fun o=>(rdS ops o,wrS o))[j]?=some (rdS ops ops[j],wrS ops[j]):=by simp [hj]
 have st:=Bs _ _ [] 0 i j _ _ _ _ hS rfl (by omega) (by rw [List.nil_append];exact s1) s2
 rw [Nat.zero_add] at st
 have dy:bitB ((o9 ops.toList []).getD j 0) i=true\/(pN (wrL fs[i]) (rdL fs[j]++wrL fs[j])=false/\pN (wrL fs[j]) (rdL fs[i])=false):=by
  rcases hD with hD | hD
  ·right
   have nil:∀f∈fs,wrL f=[]:=by
    intro f hf
    have:=List.all_eq_true.1 hD f hf
    unfold wrL
    split
    ·split at this
     ·rename_i hw;rw [hw];rfl
     ·simp at this
    ·rfl
   rw [nil _ (List.getElem_mem _),nil _ (List.getElem_mem _)]
   exact ⟨rfl,rfl⟩
  ·have d1:(fs.map fun f=>(rdL f,wrL f))[i]?=some (rdL fs[i],wrL fs[i]):=by simp [hlen,hin]
   have d2:(fs.map fun f=>(rdL f,wrL f))[j]?=some (rdL fs[j],wrL fs[j]):=by simp [hlen,hj]
   have:=Bs _ _ [] 0 i j _ _ _ _ hD rfl (by omega) (by rw [List.nil_append];exact d1) d2
   rwa [Nat.zero_add] at this
 simp only [List.getD_eq_getElem?_getD,List.getElem?_map,List.getElem?_range hin,List.getElem?_range hj,Option.map_some,Option.getD_some,h1,h2,h3,h4]
 generalize ops[i]=oi at *
 generalize ops[j]=oj at *
 generalize fs[i]=fi at *
 generalize fs[j]=fj at *
 by_cases hb:bitB ((o9 ops.toList []).getD j 0) i=true
 ·have:=xC ops.size j i hj hj (by rw [<-Jm];exact hb)
  simp [List.contains_iff_mem,this]
 ·obtain ⟨s3,s4⟩:=st.resolve_left hb
  obtain ⟨d3,d4⟩:=dy.resolve_left hb
  rw [Bool.or_eq_true]
  right
  rw [Bool.not_eq_true',Bool.or_eq_false_iff]
  constructor
  ·cases hc:vR ((fpW oi fi).map (·.1)) ((fpR ops oj fj).map (·.1)++(fpW oj fj).map (·.1)) with
   | false=>rfl
   | true=>
    exfalso
    obtain ⟨x,hx,hy⟩:=zU hc
    rcases memW hx with ⟨d,rfl,hd⟩ | ⟨l,rfl,hl⟩
    ·rcases List.mem_append.1 hy with hy | hy
     ·rcases memR rj hy with ⟨d',e,hd'⟩ | ⟨l,e,_⟩
      ·simp at e;subst e;exact nO s3 hd (List.mem_append.2 (.inl hd'))
      ·simp at e
     ·rcases memW hy with ⟨d',e,hd'⟩ | ⟨l,e,_⟩
      ·simp at e;subst e;exact nO s3 hd (List.mem_append.2 (.inr hd'))
      ·simp at e
    ·rcases List.mem_append.1 hy with hy | hy
     ·rcases memR rj hy with ⟨d',e,hd'⟩ | ⟨l',e,hl'⟩
      ·simp at e
      ·simp at e;subst e;exact nO d3 hl (List.mem_append.2 (.inl hl'))
     ·rcases memW hy with ⟨d',e,hd'⟩ | ⟨l',e,hl'⟩
      ·simp at e
      ·simp at e;subst e;exact nO d3 hl (List.mem_append.2 (.inr hl'))
  ·cases hc:vR ((fpW oj fj).map (·.1)) ((fpR ops oi fi).map (·.1)) with
   | false=>rfl
   | true=>
    exfalso
    obtain ⟨x,hx,hy⟩:=zU hc
    rcases memW hx with ⟨d,rfl,hd⟩ | ⟨l,rfl,hl⟩
    ·rcases memR ri hy with ⟨d',e,hd'⟩ | ⟨l,e,_⟩
     ·simp at e;subst e;exact nO s4 hd hd'
     ·simp at e
    ·rcases memR ri hy with ⟨d',e,hd'⟩ | ⟨l',e,hl'⟩
     ·simp at e
     ·simp at e;subst e;exact nO d4 hl hl'
theorem wR:∀(os:List Oper) (fs:List Fp) (o:Oper) (f:Fp) (al:Al),os.length=fs.length->og (os++[o]) (fs++[f]) al=mM o f (og os fs al)
 | [],[],o,f,al,_=>rfl
 | [],_::_,o,f,al,h=>by simp at h
 | _::_,[],o,f,al,h=>by simp at h
 | o'::os,f'::fs,o,f,al,h=>wR os fs o f _ (by simpa using h)
theorem y8:∀(os:List Oper) (fs:List Fp) (o:Oper) (f:Fp) (L:Lb),os.length=fs.length->sC (os++[o]) (fs++[f]) L=qW f (sC os fs L)
 | [],[],o,f,L,_=>rfl
 | [],_::_,o,f,L,h=>by simp at h
 | _::_,[],o,f,L,h=>by simp at h
 | o'::os,f'::fs,o,f,L,h=>y8 os fs o f _ (by simpa using h)
theorem sB (ops:Array Oper):∀(os:List Oper) (fs:List Fp) (o:Oper) (f:Fp) (al:Al) (L:Lb),os.length=fs.length ->
  kO ops (os++[o]) (fs++[f]) al L=kO ops os fs al L++[(fpR ops o f).map fun p=>cS (og os fs al) (sC os fs L) p.1]
 | [],[],o,f,al,L,_=>rfl
 | [],_::_,o,f,al,L,h=>by simp at h
 | _::_,[],o,f,al,L,h=>by simp at h
 | o'::os,f'::fs,o,f,al,L,h=>by
  simp only [List.cons_append,kO,og,sC]
  rw [sB ops os fs o f _ _ (by simpa using h)]
theorem sy (ops:Array Oper):∀(os:List Oper) (fs:List Fp) (o:Oper) (f:Fp),os.length=fs.length->kN ops (os++[o]) (fs++[f])=kN ops os fs++[(fpR ops o f).map (·.2)]
 | [],[],o,f,_=>rfl
 | [],_::_,o,f,h=>by simp at h
 | _::_,[],o,f,h=>by simp at h
 | o'::os,f'::fs,o,f,h=>by
  simp only [List.cons_append,kN]
  rw [sy ops os fs o f (by simpa using h)]
structure DInv (E:Env) (ops:Array Oper) (pre:List Oper) (fs:List Fp) (al0:Al) (L0:Lb) (al:Al) (L:Lb):Prop where
 len:pre.length=fs.length
 hal:al=og pre fs al0
 hL:L=sC pre fs L0
 tv:kO ops pre fs al0 L0=kN ops pre fs
 op:∀(i:Nat) (o:Oper) (f:Fp),pre[i]?=some o->fs[i]?=some f->f.run=true->AOp E o f.ra f.rl f.x f.wl
 gd:∀(i:Nat) (o:Oper) (f:Fp),pre[i]?=some o->fs[i]?=some f->(match o.guard with | some _=>(!f.gd || !f.run) | none=>f.run)=true
 ra:∀(i:Nat) (o:Oper) (f:Fp),pre[i]?=some o->fs[i]?=some f->∀p∈f.ra,p.1∈dG (jS o.op)
theorem ni {α:Type} {xs:List α} {x y:α} {i:Nat} (h:(xs++[x])[i]?=some y):(i<xs.length/\xs[i]?=some y)\/(i=xs.length/\y=x):=by
 rcases Nat.lt_or_ge i xs.length with hi | hi
 ·rw [List.getElem?_append_left hi] at h;exact .inl ⟨hi,h⟩
 ·rw [List.getElem?_append_right hi] at h
  cases hk:i-xs.length with
  | zero=>rw [hk] at h;simp at h;exact .inr ⟨by omega,h.symm⟩
  | succ k=>rw [hk] at h;simp at h
theorem DInv.snoc {E:Env} {ops:Array Oper} {pre:List Oper} {fs:List Fp} {al0 al:Al} {L0 L:Lb} (h:DInv E ops pre fs al0 L0 al L) {o:Oper} {f:Fp}
  (hr:∀p∈fpR ops o f,cS al L p.1=p.2) (hop:f.run=true->AOp E o f.ra f.rl f.x f.wl) (hgd:(match o.guard with | some _=>(!f.gd || !f.run) | none=>f.run)=true) (hra:∀p∈f.ra,p.1∈dG (jS o.op)) :
  DInv E ops (pre++[o]) (fs++[f]) al0 L0 (mM o f al) (qW f L):=by
 refine ⟨by simp [h.len],by rw [wR _ _ _ _ _ h.len,h.hal],by rw [y8 _ _ _ _ _ h.len,h.hL],?_,?_,?_,?_⟩
 ·rw [sB _ _ _ _ _ _ _ h.len,sy _ _ _ _ _ h.len,h.tv,<-h.hal,<-h.hL]
  congr 2
  exact List.map_congr_left hr
 ·intro i o' f' h1 h2 h3
  rcases ni h1 with ⟨a,b⟩ | ⟨a,rfl⟩ <;> rcases ni h2 with ⟨c,d⟩ | ⟨c,rfl⟩
  ·exact h.op i _ _ b d h3
  ·have:=h.len;omega
  ·have:=h.len;omega
  ·exact hop h3
 ·intro i o' f' h1 h2
  rcases ni h1 with ⟨a,b⟩ | ⟨a,rfl⟩ <;> rcases ni h2 with ⟨c,d⟩ | ⟨c,rfl⟩
  ·exact h.gd i _ _ b d
  ·have:=h.len;omega
  ·have:=h.len;omega
  ·exact hgd
 ·intro i o' f' h1 h2
  rcases ni h1 with ⟨a,b⟩ | ⟨a,rfl⟩ <;> rcases ni h2 with ⟨c,d⟩ | ⟨c,rfl⟩
  ·exact h.ra i _ _ b d
  ·have:=h.len;omega
  ·have:=h.len;omega
  ·exact hra
end Go.SH
namespace Go.SH
theorem Weak.subG {E:Env} {K:Nat->Prop} {al al':Al} {L:Lb} (hs:∀t x,lget al' t=some x->lget al t=some x):Weak E K al L al' L:=fun _ w σ _ r=>
 ⟨σ,⟨fun t x hx=>r.tmps t x (hs t x hx),r.blocks,r.globals,r.nodefer⟩,Grow.refl _ _ _ _⟩
theorem HF {E:Env} (hm:E.P.follows .mixedOrders=true) {n id:Nat} {ops:Array Oper} {fs:List Fp} {al0 al:Al} {L0 L:Lb} {K:Nat->Prop} (h:DInv E ops ops.toList fs al0 L0 al L) (he:wB ops=true) (hS:AL ops=true) (hd:HG n ops=true)
  (hp:pureL fs=true\/(tE fs=true/\AM ops fs=true)):AW E K n (.region id ops true) (fun e1 al1 L1=>e1 = .normal/\al1=al/\L1=L) al0 L0:=by
 have hlen:fs.length=ops.size:=by have:=h.len;simp at this;omega
 have g1:∀(i:Nat) (o:Oper),ops[i]?=some o->ops.toList[i]?=some o:=fun i o h=>by simpa using h
 have hst:∀(i:Nat) (o:Oper),ops[i]?=some o->(lB n o.dst&&(match o.guard with | some _=>(pR ops o).isSome | none=>true))=true:=fun i o ho=>
  List.all_eq_true.1 ((Bool.and_eq_true _ _).mp hd).1 o (List.mem_of_getElem? (g1 i o ho))
 refine ul (JF (Q:=fun e al1 L1=>e = .normal/\(∀t,lget al1 t=lget al t)/\∀l,lget L1 l=lget L l) hm fs hlen (fun i o f ho hf hr=>h.op i o f (g1 i o ho) hf hr) (fun i o f ho hf=>⟨?_,?_,?_⟩) he
  (Hn hlen hS (hp.imp (fun h=>h) (·.2)) fun i o f ho hf=>h.ra i o f (g1 i o ho) hf) h.tv (fun al1 L1 e1 e2=>⟨rfl,fun t=>by rw [e1,<-h.hal],fun l=>by rw [e2,<-h.hL]⟩) (fun i o ho=>List.all_eq_true.1 ((Bool.and_eq_true _ _).mp hd).2 o (List.mem_of_getElem? (g1 i o ho))) (fun _ _ h=>by simp at h)) ?_
 ·have h1:=h.gd i o f (g1 i o ho) hf
  have h2:=hst i o ho
  unfold AN
  cases hg:o.guard with
  | none=>rw [hg] at h1;exact h1
  | some q=>rw [hg] at h1 h2;simp only [Bool.and_eq_true] at h2 ⊢;exact ⟨h2.2,h1⟩
 ·rcases hp with hp | hp
  ·have:=List.all_eq_true.1 hp f (List.mem_of_getElem? hf)
   split at this
   ·rename_i hw;rw [hw];rfl
   ·simp at this
  ·exact List.all_eq_true.1 hp.1 f (List.mem_of_getElem? hf)
 ·intro t ht
  have h2:=hst i o ho
  simp only [Bool.and_eq_true] at h2
  exact k9 h2.1 t ht
 ·rintro e al1 L1 ⟨rfl,e1,e2⟩
  exact ⟨al,L,(Weak.subG fun t x hx=>by rw [e1];exact hx).trans (Weak.eqL fun l=>(e2 l).symm),rfl,rfl,rfl⟩
def TrB (m:Tr) (nx:Nat):Prop:=∀l,tget m l≠none->l<nx
structure StOK (m:Tr) (nx lo:Nat) (m':Tr) (nx':Nat):Prop where
 le:nx<=nx'
 mx:nx'<=maxL
 trb:TrB m' nx'
 low:∀l,l<lo->tget m' l=tget m l
 dom:∀l,l<nx->tget m l=none->tget m' l=none
theorem rp {ops:Array Oper} {al:Al} {o:Oper} {run:Bool} (h:iL ops al o=some run):(∀d,pR ops o=some d->lget al d=some (gval o run (gdOf ops al o)))/\(run=true->gdOf ops al o=false)/\(o.guard=none->run=true):=by
 unfold iL at h
 unfold pR gval gdOf
 cases hg:o.guard with
 | none=>rw [hg] at h;simp at h;simp [h]
 | some q=>
  obtain ⟨j,want⟩:=q
  rw [hg] at h
  simp only at h ⊢
  have hh:(ops[j]?).bind (·.dst)=none\/∃d,(ops[j]?).bind (·.dst)=some d:=by cases (ops[j]?).bind (·.dst) <;> simp
  rcases hh with hd | ⟨d,hd⟩
  ·simp [hd] at h
  ·have hx':lget al d=none\/∃x,lget al d=some x:=by cases lget al d <;> simp
   rcases hx' with hx | ⟨x,hx⟩
   ·simp [hd,hx] at h
   ·simp only [hd,hx] at h ⊢
    cases x <;> simp at h
    ·subst h
     refine ⟨fun d' hd'=>?_,by simp,by simp⟩
     simp at hd';subst hd'
     rw [hx];simp
    ·rename_i b
     subst h
     refine ⟨fun d' hd'=>?_,by simp,by simp⟩
     simp at hd';subst hd'
     rw [hx];cases b <;> cases want <;> rfl
theorem Ht {ops:Array Oper} {al:Al} {L:Lb} {o:Oper} {f:Fp} (hw:iL ops al o=some f.run) (hgd:f.gd=gdOf ops al o) (hra:∀p∈f.ra,lget al p.1=some p.2) (hrl:∀p∈f.rl,lget L p.1=some p.2)
  (hnew:∀l∈fnew f,lget L l=none):∀p∈fpR ops o f,cS al L p.1=p.2:=by
 intro p hp
 unfold fpR at hp
 rw [List.mem_append] at hp
 rcases hp with hp | hp
 ·cases hd:pR ops o with
  | none=>rw [hd] at hp;simp at hp
  | some d=>
   rw [hd] at hp
   simp at hp;subst hp
   simp only [cS]
   rw [(rp hw).1 d hd,hgd]
 ·split at hp
  ·rw [List.mem_append,List.mem_append] at hp
   rcases hp with (hp | hp) | hp
   ·simp only [List.mem_map] at hp
    obtain ⟨q,hq,rfl⟩:=hp
    simp only [cS];rw [hra q hq]
   ·simp only [List.mem_map] at hp
    obtain ⟨q,hq,rfl⟩:=hp
    simp only [cS];rw [hrl q hq]
   ·simp only [List.mem_map] at hp
    obtain ⟨l,hl,rfl⟩:=hp
    simp only [cS];rw [hnew l hl]
  ·simp at hp
end Go.SH
