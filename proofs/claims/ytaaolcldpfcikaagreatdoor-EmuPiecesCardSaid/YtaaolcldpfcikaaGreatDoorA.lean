/- Part 1 of: EmuPieces -/
import Derived.KernelRfl
import Derived.WalkKit
import Derived.TacticsIn
import Derived.RangeFuncLeaves
import Derived.RangeFuncRecord
import Derived.Great.BuildSlice
import Derived.Deep.AppendSrc
import Derived.Laws.BytesString
import Derived.Laws.Concat
import Derived.Orders
import Derived.Lib.ConvBytes
set_option linter.unusedVariables false
set_option linter.unusedSimpArgs false
set_option linter.unusedSectionVars false
noncomputable section
namespace Go.SH
inductive PV where
 | dead
 | int (k:IntKind) (n:Int)
 | bool (b:Bool)
 | str (s:List UInt8)
 | nilp
 | ptr (l off:Nat)
 | rop (cells:List PV) (off:Nat)
 | nils
 | ro (cells:List PV) (n:Nat) (co:Option Nat)
 | rw (l off n sz:Nat) (co:Option Nat)
 | fs (q:Nat) (cells:List PV) (n:Nat) (co:Option Nat)
 | fn (f:FuncId) (caps:List PV)
 | nilf
 | iface (t:TypeId) (v:PV)
 | nili
 | ev (T:TypeId) (o:Option Addr)
 | xc (g:Nat) (cs:List Value)
 | agg (cells:List PV)
 | tup (vs:List PV)
 | yld (n:Nat) (ps:List Nat) (assign body:Code) (ts:List Nat) (vs:List PV)
 | raw (l:Nat)
 deriving Inhabited
structure Sig where
 lab:Nat->Option (Nat×Nat×Nat)
 fam:Nat->Nat->Nat->Prop
instance:CoeFun Sig (fun _=>Nat->Option (Nat×Nat×Nat)):=⟨Sig.lab⟩
def sig0:Sig:=⟨fun _=>none,fun _ _ _=>False⟩
def vA (σ:Sig) (β:Nat):Prop:=∃q add,σ.fam q β add
def flab:Nat:=1000
def de:Nat:=1001
structure Imm (w:World) (av:Nat->Prop) (β add:Nat) (cs:List Value):Prop where
 lt:β<w.heap.size
 na:¬av β
 cell:∀i v,cs[i]?=some v->w.cell? ⟨β,add+i,none⟩=some v
def evV (T:TypeId):Option Addr->Value
 | none=>.nilIface
 | some a=>.iface T (.pointer (some a))
structure EvA (w:World) (av:Nat->Prop) (a:Addr):Prop where
 na:¬av a.block
 heap:∃c t,w.heap[a.block]?=some (.cells c t (0,0))
theorem EvA.lt {w:World} {av:Nat->Prop} {a:Addr} (h:EvA w av a):a.block<w.heap.size:=by
 obtain ⟨c,t,h⟩:=h.heap
 exact (Array.getElem?_eq_some_iff.1 h).1
inductive VR (w:World) (σ:Sig) (av:Nat->Prop):PV->Value->Prop where
 | dead:VR w σ av .dead undef
 | int (k:IntKind) (n:Int):VR w σ av (.int k n) (.int k n)
 | bool (b:Bool):VR w σ av (.bool b) (.bool b)
 | str (l:List UInt8):VR w σ av (.str l) (.string ⟨⟨l⟩⟩)
 | nilp:VR w σ av .nilp (.pointer none)
 | ptr {l off β add size:Nat} (h:σ l=some (β,add,size)):VR w σ av (.ptr l off) (.pointer (some ⟨β,add+off,none⟩))
 | rop {cells:List PV} {off β add:Nat} (cs:List Value) (him:Imm w av β add cs) (hl:cells.length=cs.length)
   (hv:∀(i:Nat) (x:PV) (v:Value),cells[i]?=some x->cs[i]?=some v->VR w σ av x v):VR w σ av (.rop cells off) (.pointer (some ⟨β,add+off,none⟩))
 | nils:VR w σ av .nils (.slice none 0 0)
 | roE {co:Option Nat} (a:Option Addr) (cap:Nat) (hc:∀c,co=some c->cap=c):VR w σ av (.ro [] 0 co) (.slice a 0 cap)
 | ro {cells:List PV} {n:Nat} {co:Option Nat} {β add cap:Nat} (cs:List Value) (him:Imm w av β add cs) (hl:cells.length=cs.length)
   (hv:∀(i:Nat) (x:PV) (v:Value),cells[i]?=some x->cs[i]?=some v->VR w σ av x v) (hn:n<=cap) (hc:∀c,co=some c->cap=c) :
   VR w σ av (.ro cells n co) (.slice (some ⟨β,add,none⟩) n cap)
 | rwE {l off sz:Nat} {co:Option Nat} (a:Option Addr) (hc:∀c,co=some c->c=0):VR w σ av (.rw l off 0 sz co) (.slice a 0 0)
 | rw {l off n sz:Nat} {co:Option Nat} {β add size cap:Nat} (h:σ l=some (β,add,size)) (hn:n<=cap) (hc:∀c,co=some c->cap=c)
   (hs:add+off+cap*sz<=size):VR w σ av (.rw l off n sz co) (.slice (some ⟨β,add+off,none⟩) n cap)
 | fsE {q:Nat} {co:Option Nat} (a:Option Addr) (cap:Nat) (hc:∀c,co=some c->cap=c):VR w σ av (.fs q [] 0 co) (.slice a 0 cap)
 | fs {q:Nat} {cells:List PV} {n:Nat} {co:Option Nat} {β add cap:Nat} {c:Array Value} {T:TypeId} {fr:Nat×Nat} (hf:σ.fam q β add) (hh:w.heap[β]?=some (.cells c T fr)) (hfr:fr.1=fr.2\/c.size<=fr.1) (hl:add+cells.length<=c.size)
   (hv:∀(i:Nat) (x:PV) (v:Value),cells[i]?=some x->c[add+i]?=some v->VR w σ av x v) (hn:n<=cap) (hc:∀c,co=some c->cap=c) (hz:∀sz,0<n->cells.length=n*sz->add+cap*sz<=c.size):VR w σ av (.fs q cells n co) (.slice (some ⟨β,add,none⟩) n cap)
 | fn {caps:List PV} (f:FuncId) (cs:List Value) (hl:caps.length=cs.length)
   (hv:∀(i:Nat) (x:PV) (v:Value),caps[i]?=some x->cs[i]?=some v->VR w σ av x v):VR w σ av (.fn f caps) (.func (.func f) #[] cs.toArray)
 | nilf:VR w σ av .nilf .nilFunc
 | raw (l:Nat):VR w σ av (.raw l) (.func (.yield l) #[] #[])
 | iface {x:PV} (t:TypeId) (v:Value) (h:VR w σ av x v):VR w σ av (.iface t x) (.iface t v)
 | nili:VR w σ av .nili .nilIface
 | ev (T:TypeId) (o:Option Addr) (h:∀a,o=some a->EvA w av a):VR w σ av (.ev T o) (evV T o)
 | xc (g:Nat) (cs:List Value) (T:TypeId) (fr:Nat×Nat) (v:Value) (h0:cs[0]?=some v) (hn:¬av g) (hh:w.heap[g]?=some (.cells cs.toArray T fr)):VR w σ av (.xc g cs) v
 | agg {cells:List PV} (cs:List Value) (hl:cells.length=cs.length)
   (hv:∀(i:Nat) (x:PV) (v:Value),cells[i]?=some x->cs[i]?=some v->VR w σ av x v):VR w σ av (.agg cells) (.agg cs.toArray)
 | tup {cells:List PV} (cs:List Value) (hl:cells.length=cs.length)
   (hv:∀(i:Nat) (x:PV) (v:Value),cells[i]?=some x->cs[i]?=some v->VR w σ av x v):VR w σ av (.tup cells) (.tuple cs.toArray)
 | yld {n:Nat} {ps ts:List Nat} {assign body:Code} {vs:List PV} (l:Nat) (fn dfr:Nat) (tmps:Array Value) (cs:List Value) (hn:¬av l) (hl:w.heap[l]?=some (.loop { state:=.ready,pending:=none,fn:=fn,tmps:=tmps,params:=ps.toArray,assign:=assign,body:=body,defers:=dfr }))
   (hz:tmps.size=n) (hc:vs.length=cs.length) (ht:∀(i t:Nat) (v:Value),ts[i]?=some t->cs[i]?=some v->tmps[t]?=some v) (hv:∀(i:Nat) (x:PV) (v:Value),vs[i]?=some x->cs[i]?=some v->VR w σ av x v) :
   VR w σ av (.yld n ps assign body ts vs) (.func (.yield l) #[] #[])
theorem Imm.mono {w w':World} {av av':Nat->Prop} {β add:Nat} {cs:List Value} (h:Imm w av β add cs)
  (hs:w.heap.size<=w'.heap.size) (hw:∀β,β<w.heap.size->¬av β->¬av' β/\w'.heap[β]?=w.heap[β]?):Imm w' av' β add cs:=
 ⟨Nat.lt_of_lt_of_le h.lt hs,(hw β h.lt h.na).1,fun i v hv=>by
  have:=h.cell i v hv
  simpa [World.cell?,(hw β h.lt h.na).2] using this⟩
theorem VR.mono {w w':World} {σ σ':Sig} {av av':Nat->Prop} {x:PV} {v:Value} (h:VR w σ av x v)
  (hσ:∀l y,σ l=some y->σ' l=some y) (hs:w.heap.size<=w'.heap.size)
  (hw:∀β,β<w.heap.size->¬av β->¬av' β/\w'.heap[β]?=w.heap[β]?) (hf:∀q β add,σ.fam q β add->σ'.fam q β add/\w'.heap[β]?=w.heap[β]?):VR w' σ' av' x v:=by
 induction h with
 | dead=>exact .dead
 | int k n=>exact .int k n
 | bool b=>exact .bool b
 | str l=>exact .str l
 | nilp=>exact .nilp
 | ptr h=>exact .ptr (hσ _ _ h)
 | rop cs him hl _ ih=>exact .rop cs (him.mono hs hw) hl ih
 | nils=>exact .nils
 | roE a cap hc=>exact .roE a cap hc
 | ro cs him hl _ hn hc ih=>exact .ro cs (him.mono hs hw) hl ih hn hc
 | rwE a hc=>exact .rwE a hc
 | rw h hn hc hs'=>exact .rw (hσ _ _ h) hn hc hs'
 | fsE a cap hc=>exact .fsE a cap hc
 | fs h hh hfr hl _ hn hc hz ih=>exact .fs (hf _ _ _ h).1 ((hf _ _ _ h).2.trans hh) hfr hl ih hn hc hz
 | fn f cs hl _ ih=>exact .fn f cs hl ih
 | nilf=>exact .nilf
 | raw v=>exact .raw v
 | iface t v _ ih=>exact .iface t v ih
 | nili=>exact .nili
 | ev T o h=>exact .ev T o fun a e=>let k:=hw _ (h a e).lt (h a e).na;⟨k.1,let ⟨c,t,q⟩:=(h a e).heap;⟨c,t,k.2.trans q⟩⟩
 | xc g cs T fr v h0 hn hh=>let k:=hw g (Array.getElem?_eq_some_iff.1 hh).1 hn;exact .xc g cs T fr v h0 k.1 (k.2.trans hh)
 | agg cs hl _ ih=>exact .agg cs hl ih
 | tup cs hl _ ih=>exact .tup cs hl ih
 | yld l fn dfr tmps cs hn hl hz hc ht _ ih=>
  obtain ⟨h1,h2⟩:=hw l (Array.getElem?_eq_some_iff.1 hl).1 hn
  exact .yld l fn dfr tmps cs h1 (h2.trans hl) hz hc ht ih
def lget {α:Type}:List (Nat×α)->Nat->Option α
 | [],_=>none
 | (k,x)::r,l=>if k=l then some x else lget r l
def lset {α:Type}:List (Nat×α)->Nat->α->List (Nat×α)
 | [],l,y=>[(l,y)]
 | (k,x)::r,l,y=>if k=l then (k,y)::r else (k,x)::lset r l y
def lupd {α:Type} (L:List (Nat×α)) (wl:List (Nat×α)):List (Nat×α):=wl.foldl (fun L p=>lset L p.1 p.2) L
theorem ao {α:Type} (L:List (Nat×α)) (l k:Nat) (y:α):lget (lset L l y) k=if l=k then some y else lget L k:=by
 induction L with
 | nil=>simp [lset,lget]
 | cons p r ih=>
  obtain ⟨j,x⟩:=p
  simp only [lset]
  split
  ·rename_i h;subst h;simp only [lget];split <;> simp_all
  ·rename_i h
   simp only [lget,ih]
   by_cases hj:j=k
   ·subst hj;simp;intro hl;exact absurd hl.symm h
   ·simp [hj]
abbrev Al:=List (Nat×PV)
abbrev Lb:=List (Nat×Option (List PV))
def cd (σ:Sig) (L:Lb) (β:Nat):Prop:=∃l cells a s,lget L l=some (some cells)/\σ l=some (β,a,s)
def avOf (σ:Sig) (L:Lb) (β:Nat):Prop:=cd σ L β\/vA σ β
def avo (A:Nat->Prop) (σ:Sig) (L:Lb) (β:Nat):Prop:=A β\/avOf σ L β
structure Blk (w:World) (σ:Sig) (av:Nat->Prop) (l:Nat) (cells:List PV) (β add size:Nat) (c:Array Value) (T:TypeId) (fr:Nat×Nat):Prop where
 sig:σ l=some (β,add,size)
 heap:w.heap[β]?=some (.cells c T fr)
 hsz:c.size=size
 fits:add+cells.length<=size
 vals:∀i x,cells[i]?=some x->∃v,c[add+i]?=some v/\VR w σ av x v
 frs:fr.1=fr.2\/size<=fr.1
theorem Blk.free {w:World} {σ:Sig} {av:Nat->Prop} {l:Nat} {cells:List PV} {β add size:Nat} {c:Array Value} {T:TypeId} {fr:Nat×Nat} (h:Blk w σ av l cells β add size c T fr) :
  ∀j,add<=j->j<size->¬(fr.1<=j/\j<fr.2):=by
 have:=h.frs;intro j h1 h2;omega
structure FR (w:World) (σ:Sig) (L:Lb):Prop where
 fam:∀q β add,σ.fam q β add->β<w.heap.size/\¬cd σ L β
 cel:∀q β add,σ.fam q β add->∃c T fr,w.heap[β]?=some (.cells c T fr)
 one:∀q q' β add add',σ.fam q β add->σ.fam q' β add'->q=q'/\add=add'
theorem FR.mono {w w':World} {σ σ':Sig} {L L':Lb} (h:FR w σ L) (hs:w.heap.size<=w'.heap.size) (hf:∀q β add,σ'.fam q β add->σ.fam q β add)
  (hh:∀q β add,σ.fam q β add->w'.heap[β]?=w.heap[β]?) (hl:∀q β add,σ.fam q β add->cd σ' L' β->cd σ L β):FR w' σ' L':=
 ⟨fun q β add k=>let ⟨h1,h2⟩:=h.fam q β add (hf _ _ _ k);⟨Nat.lt_of_lt_of_le h1 hs,fun ha=>h2 (hl _ _ _ (hf _ _ _ k) ha)⟩,
  fun q β add k=>let ⟨c,T,fr,e⟩:=h.cel q β add (hf _ _ _ k);⟨c,T,fr,(hh _ _ _ (hf _ _ _ k)).trans e⟩,fun q q' β add add' k k'=>h.one _ _ _ _ _ (hf _ _ _ k) (hf _ _ _ k')⟩
theorem FR.none {w:World} {σ:Sig} {L:Lb} (h:∀q β add,¬σ.fam q β add):FR w σ L:=⟨fun _ _ _ k=>(h _ _ _ k).elim,fun _ _ _ k=>(h _ _ _ k).elim,fun _ _ _ _ _ k=>(h _ _ _ k).elim⟩
structure BR (w:World) (σ:Sig) (A:Nat->Prop) (L:Lb):Prop where
 all:∀l cells,lget L l=some (some cells)->(σ l=none/\cells=[])\/∃β add size c T fr,Blk w σ (avo A σ L) l cells β add size c T fr
 inj:∀l l' c c' β a s a' s',lget L l=some (some c)->lget L l'=some (some c')->σ l=some (β,a,s)->σ l'=some (β,a',s')->l=l'
 dom:∀l x,σ l=some x->lget L l≠none
 lo:∀β,A β->β<w.heap.size/\¬avOf σ L β
 fr:FR w σ L
structure Env where
 P:Program
 G:List (Nat×List PV)
 ro:Option Nat
 mb:Option Nat
abbrev Env.on (E:Env) (ro mb:Option Nat):Env:=⟨E.P,E.G,ro,mb⟩
def CJ (w:World):Option Nat->List Deferred->Prop
 | none,ds=>ds=[]
 | some b,ds=>b<=w.heap.size/\(∀d∈ds,∃r,d.target = .collected r/\b<=r/\w.heap[r]?=some (.deferred (some [])))/\ds.Pairwise fun d d'=>d.target≠d'.target
structure Rel (E:Env) (A:Nat->Prop) (w:World) (σ:Sig) (al:Al) (L:Lb) (a:Act):Prop where
 tmps:∀t x,lget al t=some x->∃v,a.tmps[t]?=some v/\VR w σ (avo A σ L) x v
 blocks:BR w σ A L
 globals:∀g cells,lget E.G g=some cells->VR w σ (avo A σ L) (.rop cells 0) (.pointer (some ⟨g,0,none⟩))
 nodefer:CJ w E.mb a.defers
structure Grow (K:Nat->Prop) (w:World) (σ:Sig) (L:Lb) (w':World) (σ':Sig) (L':Lb):Prop where
 size:w.heap.size<=w'.heap.size
 sig:∀l y,K l->σ l=some y->σ' l=some y
 keep:∀β,β<w.heap.size->¬avOf σ L β->¬avOf σ' L' β/\w'.heap[β]?=w.heap[β]?
 out:w'.os=w.os/\w'.output=w.output/\w'.tape=w.tape 
 fam:K de->∀q β add,σ.fam q β add->σ'.fam q β add/\w'.heap[β]?=w.heap[β]?
theorem Grow.refl (K:Nat->Prop) (w:World) (σ:Sig) (L:Lb):Grow K w σ L w σ L:=⟨Nat.le_refl _,fun _ _ _ h=>h,fun _ _ h=>⟨h,rfl⟩,⟨rfl,rfl,rfl⟩,fun _ _ _ _ h=>⟨h,rfl⟩⟩
theorem Grow.trans {K:Nat->Prop} {w w' w'':World} {σ σ' σ'':Sig} {L L' L'':Lb} (h:Grow K w σ L w' σ' L') (h':Grow K w' σ' L' w'' σ'' L''):Grow K w σ L w'' σ'' L'':=
 ⟨Nat.le_trans h.size h'.size,fun l y k hy=>h'.sig l y k (h.sig l y k hy),fun β hb hn=>by
  obtain ⟨h1,h2⟩:=h.keep β hb hn
  obtain ⟨h3,h4⟩:=h'.keep β (Nat.lt_of_lt_of_le hb h.size) h1
  exact ⟨h3,h4.trans h2⟩,⟨h'.out.1.trans h.out.1,h'.out.2.1.trans h.out.2.1,h'.out.2.2.trans h.out.2.2⟩,fun k q β add hf=>let ⟨h1,h2⟩:=h.fam k q β add hf;let ⟨h3,h4⟩:=h'.fam k q β add h1;⟨h3,h4.trans h2⟩⟩
theorem Grow.weaken {K K':Nat->Prop} {w w':World} {σ σ':Sig} {L L':Lb} (h:Grow K w σ L w' σ' L') (hk:∀l,K' l->K l):Grow K' w σ L w' σ' L':=
 ⟨h.size,fun l y k=>h.sig l y (hk l k),h.keep,h.out,fun k=>h.fam (hk _ k)⟩
def top:Nat->Prop:=fun _=>True
theorem VR.grow {A:Nat->Prop} {w w':World} {σ σ':Sig} {L L':Lb} {x:PV} {v:Value} (h:VR w σ (avo A σ L) x v) (hg:Grow top w σ L w' σ' L'):VR w' σ' (avo A σ' L') x v:=
 h.mono (fun l y hy=>hg.sig l y trivial hy) hg.size (fun β hb hn=>by
  have h1:¬A β:=fun h=>hn (.inl h)
  have h2:¬avOf σ L β:=fun h=>hn (.inr h)
  obtain ⟨h3,h4⟩:=hg.keep β hb h2
  exact ⟨fun h=>h.elim h1 h3,h4⟩) (hg.fam trivial)
def Post (E:Env) (K:Nat->Prop) (A:Nat->Prop) (w:World) (σ:Sig) (L:Lb) (n:Nat) (Q:Exit->Al->Lb->Prop):Exit->Act->World->Prop:=
 fun e a' w'=>∃al' L' σ',Q e al' L'/\Rel E A w' σ' al' L' a'/\Grow K w σ L w' σ' L'/\a'.tmps.size=n
abbrev fen (ro:Option Nat):Fence:={ Fence.wide with round:=ro }
theorem pT {ro:Option Nat} {n:Nat} {P:Program} {f:FuncId} {args:Array Value} {w:World} {R:Ending->World->Prop} (h:Calls P f args w R):CallsIn (fen ro) n P f args w R:=(callsIn_wide (n:=n)).2 h
def AW (E:Env) (K:Nat->Prop) (n:Nat) (c:Code) (Q:Exit->Al->Lb->Prop) (al:Al) (L:Lb):Prop:=
 ∀A w σ a,Rel E A w σ al L a->a.tmps.size=n->c.wpIn (fen E.ro) 0 E.P (Post E K A w σ L n Q) a w
section rules
variable {E:Env} {K:Nat->Prop} {n:Nat} {al:Al} {L:Lb}
theorem Post.trans {A:Nat->Prop} {w w':World} {σ σ':Sig} {L L':Lb} {Q:Exit->Al->Lb->Prop} {e:Exit} {a:Act} {w'':World} (h:Grow K w σ L w' σ' L')
  (h':Post E K A w' σ' L' n Q e a w''):Post E K A w σ L n Q e a w'':=
 let ⟨al',L'',σ'',q,r,g,t⟩:=h'
 ⟨al',L'',σ'',q,r,h.trans g,t⟩
theorem AW.mono {c:Code} {Q Q':Exit->Al->Lb->Prop} (h:AW E K n c Q al L) (hq:∀e al L,Q e al L->Q' e al L):AW E K n c Q' al L:=
 fun A w σ a r t=>wpIn_mono (h A w σ a r t) fun _ _ _ ⟨al',L',σ',q,r⟩=>⟨al',L',σ',hq _ _ _ q,r⟩
theorem qz {Q:Exit->Al->Lb->Prop} (h:Q .normal al L):AW E K n .skip Q al L:=
 fun _ w σ _ r t=>wpIn_skip ⟨al,L,σ,h,r,Grow.refl _ _ _ _,t⟩
theorem Il {l:Nat} {Q:Exit->Al->Lb->Prop} (h:Q .normal al L):AW E K n (.label l) Q al L:=
 fun _ w σ _ r t=>wpIn_label ⟨al,L,σ,h,r,Grow.refl _ _ _ _,t⟩
theorem wD {i:Nat} {Q:Exit->Al->Lb->Prop} (h:Q (.exit i) al L):AW E K n (.exit i) Q al L:=
 fun _ w σ _ r t=>wpIn_exit ⟨al,L,σ,h,r,Grow.refl _ _ _ _,t⟩
theorem JF {i:Nat} {Q:Exit->Al->Lb->Prop} (h:Q (.goto i) al L):AW E K n (.goto i) Q al L:=
 fun _ w σ _ r t=>wpIn_goto ⟨al,L,σ,h,r,Grow.refl _ _ _ _,t⟩
theorem yp {Q:Exit->Al->Lb->Prop} (h:Q .ret al L):AW E K n .ret Q al L:=
 fun _ w σ _ r t=>wpIn_ret ⟨al,L,σ,h,r,Grow.refl _ _ _ _,t⟩
def J6 (N:Al->Lb->Prop) (Q:Exit->Al->Lb->Prop):Exit->Al->Lb->Prop
 | .normal,al,L=>N al L
 | e,al,L=>Q e al L
theorem cK {x y:Code} {Q:Exit->Al->Lb->Prop} (h:AW E K n x (J6 (AW E K n y Q) Q) al L):AW E K n (.seq x y) Q al L:=by
 intro A w σ a r t
 refine wpIn_seq (wpIn_mono (h A w σ a r t) ?_)
 rintro e a' w' ⟨al',L',σ',q,r',g,t'⟩
 cases e <;> first
  | exact wpIn_mono (q A w' σ' a' r' t') fun _ _ _ p=>Post.trans g p
  | exact ⟨al',L',σ',q,r',g,t'⟩
theorem lO {a:Act} {t:Nat} {v:Value} (h:a.tmps[t]?=some v):a.eval (.tmp t)=v:=by
 simp [Act.eval,Array.getD_eq_getD_getElem?,h]
theorem tX {t:Nat} {b:Bool} {x y:Code} {Q:Exit->Al->Lb->Prop} (hc:lget al t=some (.bool b)) (h1:b=true->AW E K n x Q al L) (h2:b=false->AW E K n y Q al L) :
  AW E K n (.cond (.tmp t) x y) Q al L:=by
 intro A w σ a r tt
 obtain ⟨v,hv,hr⟩:=r.tmps t _ hc
 cases hr
 exact wpIn_cond_split (t:=b) (lO hv) (fun h=>h1 h A w σ a r tt) (fun h=>h2 h A w σ a r tt)
theorem yS {b:Bool} {x y:Code} {Q:Exit->Al->Lb->Prop} (h1:b=true->AW E K n x Q al L) (h2:b=false->AW E K n y Q al L) :
  AW E K n (.cond (.const (.bool b)) x y) Q al L:=by
 intro A w σ a r tt
 exact wpIn_cond_split (t:=b) rfl (fun h=>h1 h A w σ a r tt) (fun h=>h2 h A w σ a r tt)
def pW (i:Nat) (Q:Exit->Al->Lb->Prop):Exit->Al->Lb->Prop
 | .exit j,al,L=>if j=i then Q .normal al L else Q (.exit j) al L
 | e,al,L=>Q e al L
theorem jL {i:Nat} {c:Code} {Q:Exit->Al->Lb->Prop} (h:AW E K n c (pW i Q) al L):AW E K n (.block i c) Q al L:=by
 intro A w σ a r t
 refine wpIn_block (wpIn_mono (h A w σ a r t) ?_)
 rintro e a' w' ⟨al',L',σ',q,r'⟩
 cases e with
 | exit j=>
  simp only [pW] at q
  simp only [Exit.inBlock]
  split at q
  ·rename_i hj;rw [if_pos hj];exact ⟨al',L',σ',q,r'⟩
  ·rename_i hj;rw [if_neg hj];exact ⟨al',L',σ',q,r'⟩
 | _=>exact ⟨al',L',σ',q,r'⟩
theorem Fe {c:Code} {Q:Exit->Al->Lb->Prop} (I:Al->Lb->Prop) (μ:Al->Lb->Nat) (h0:I al L)
  (round:∀al L,I al L->AW E K n c (J6 (fun al' L'=>I al' L'/\μ al' L'<μ al L) Q) al L):AW E K n (.loop c) Q al L:=by
 intro A w σ a r t b k cs hro hb hrm
 have key:∀m al L w σ a,μ al L=m->I al L->Rel E A w σ al L a->a.tmps.size=n ->
   ∃e a' w',Post E K A w σ L n Q e a' w'/\ArrivesIn (Machine.fenced E.P (fen E.ro)) E.P (lone (b.atR a (.code c :: .inLoop c::k)) cs w) b k cs e a' w':=by
  intro m
  induction m using Nat.strongRecOn with
  | _ m ih=>
   intro al L w σ a hm hI hr ht
   obtain ⟨e,a₁,w₁,⟨al₁,L₁,σ₁,q,r₁,g₁,t₁⟩,harr⟩:=round al L hI A w σ a hr ht b (.inLoop c::k) cs hro hb hrm
   cases e with
   | normal=>
    obtain ⟨hI₁,hlt⟩:=q
    obtain ⟨e₂,a₂,w₂,hq₂,harr₂⟩:=ih (μ al₁ L₁) (hm▸hlt) al₁ L₁ w₁ σ₁ a₁ rfl hI₁ r₁ t₁
    exact ⟨e₂,a₂,w₂,Post.trans g₁ hq₂,.of_steps (StepsIn.trans harr (.one (fenced_calm hb hrm rfl) stepR_inLoop)) harr₂⟩
   | exit id=>exact ⟨_,a₁,w₁,⟨al₁,L₁,σ₁,q,r₁,g₁,t₁⟩,.pass (x:=.inLoop c) rfl (fun _ _=>.inl (by simp)) harr⟩
   | goto l=>exact ⟨_,a₁,w₁,⟨al₁,L₁,σ₁,q,r₁,g₁,t₁⟩,.pass (x:=.inLoop c) rfl (fun _ _=>.inl (by simp)) harr⟩
   | ret=>exact ⟨_,a₁,w₁,⟨al₁,L₁,σ₁,q,r₁,g₁,t₁⟩,.pass (x:=.inLoop c) rfl (fun _ _=>.inl (by simp)) harr⟩
   | panic ch=>exact ⟨_,a₁,w₁,⟨al₁,L₁,σ₁,q,r₁,g₁,t₁⟩,.pass (x:=.inLoop c) rfl (fun _ _=>.inl (by simp)) harr⟩
   | outgrown=>exact ⟨_,a₁,w₁,⟨al₁,L₁,σ₁,q,r₁,g₁,t₁⟩,.pass (x:=.inLoop c) rfl (fun _ _=>.inl (by simp)) harr⟩
 obtain ⟨e,a',w',hq,harr⟩:=key _ al L w σ a rfl h0 r t
 exact ⟨e,a',w',hq,.of_steps (.one (fenced_calm hb hrm rfl) stepR_loop) harr⟩
end rules
def dQ (E:Env) (f:FuncId) (args:List PV) (L:Lb) (R:PV->Lb->Prop):Prop:=
 ∀A w σ (cargs:List Value),cargs.length=args.length->(∀(i:Nat) (x:PV) (v:Value),args[i]?=some x->cargs[i]?=some v->VR w σ (avo A σ L) x v)->BR w σ A L ->
  (∀g cells,lget E.G g=some cells->VR w σ (avo A σ L) (.rop cells 0) (.pointer (some ⟨g,0,none⟩))) ->
  Calls E.P f cargs.toArray w fun e w'=>∃r c L' σ',e = .returned c/\R r L'/\VR w' σ' (avo A σ' L') r c/\BR w' σ' A L'/\Grow (fun l=>lget L l≠none) w σ L w' σ' L'
def lQ:List PV->Nat->Al
 | [],_=>[]
 | x::r,i=>(i,x)::lQ r (i+1)
theorem jU (args:List PV):∀i t x,lget (lQ args i) t=some x->i<=t/\args[t-i]?=some x:=by
 induction args with
 | nil=>intro i t x h;simp [lQ,lget] at h
 | cons y r ih=>
  intro i t x h
  simp only [lQ,lget] at h
  split at h
  ·rename_i hk;subst hk;simp at h;subst h;simp
  ·rename_i hk
   obtain ⟨h1,h2⟩:=ih (i+1) t x h
   refine ⟨by omega,?_⟩
   have:t-i=(t-(i+1))+1:=by omega
   rw [this];simpa using h2
end Go.SH
namespace Go.SH
theorem di {α:Type} {L:List (Nat×α)} {l k:Nat} {y:α} (h:lget L k≠none):lget (lset L l y) k≠none:=by
 rw [ao];split <;> simp_all
theorem B6 (w:World) (o:Obj) (i:Nat) (h:i<w.heap.size):(w.alloc o).heap[i]?=w.heap[i]?:=by
 show (w.heap.push o)[i]?=w.heap[i]?
 rw [Array.getElem?_push,if_neg (Nat.ne_of_lt h)]
def supd (σ:Sig) (l:Nat) (x:Nat×Nat×Nat):Sig:=⟨fun k=>if k=l then some x else σ k,σ.fam⟩
theorem dJ (σ:Sig) (l:Nat) (x:Nat×Nat×Nat):supd σ l x l=some x:=by simp [supd]
theorem ck {σ:Sig} {l k:Nat} {x:Nat×Nat×Nat} (h:k≠l):supd σ l x k=σ k:=by simp [supd,h]
theorem BR.fresh {w:World} {σ:Sig} {A:Nat->Prop} {L:Lb} (h:BR w σ A L) {l:Nat} (hl:lget L l=none):σ l=none:=by
 cases hs:σ l with
 | none=>rfl
 | some x=>exact absurd hl (h.dom l x hs)
theorem BR.lt {w:World} {σ:Sig} {A:Nat->Prop} {L:Lb} (h:BR w σ A L) {β:Nat} (ha:avOf σ L β):β<w.heap.size:=by
 rcases ha with ⟨l,cells,a,s,hl,hs⟩ | ⟨q,add,hq⟩
 rotate_left
 ·exact (h.fr.fam q β add hq).1
 rcases h.all l cells hl with ⟨h1,_⟩ | ⟨β',add,size,c,T,fr,hb⟩
 ·rw [hs] at h1;simp at h1
 ·have:=hb.sig;rw [hs] at this;simp at this
  have hh:=hb.heap
  rw [<-this.1] at hh
  exact (Array.getElem?_eq_some_iff.1 hh).1
theorem BR.alloc {w:World} {σ:Sig} {A:Nat->Prop} {L:Lb} (h:BR w σ A L) {l:Nat} (hl:lget L l=none) (cells:List PV) (cs:Array Value) (T:TypeId) {fr:Nat×Nat} {w':World}
  (hsz:w'.heap.size=w.heap.size+1) (ho:∀β,β<w.heap.size->w'.heap[β]?=w.heap[β]?) (hn:w'.heap[w.heap.size]?=some (.cells cs T fr)) (hfr:fr.1=fr.2\/cs.size<=fr.1)
  (hlen:cells.length<=cs.size) (hv:∀(i:Nat) (x:PV),cells[i]?=some x->∃v,cs[i]?=some v/\VR w σ (avo A σ L) x v) (hout:w'.os=w.os/\w'.output=w.output/\w'.tape=w.tape:=by first | exact ⟨rfl,rfl,rfl⟩ | assumption) :
  BR w' (supd σ l (w.heap.size,0,cs.size)) A (lset L l (some cells)) /\
   Grow top w σ L w' (supd σ l (w.heap.size,0,cs.size)) (lset L l (some cells)):=by
 have hf:=h.fresh hl
 have hav:∀β,avOf (supd σ l (w.heap.size,0,cs.size)) (lset L l (some cells)) β->β=w.heap.size\/avOf σ L β:=by
  rintro β (⟨k,c,a,s,hk,hs⟩ | hq)
  ·rw [ao] at hk
   by_cases hkl:l=k
   ·subst hkl;rw [dJ] at hs;simp at hs;exact .inl hs.1.symm
   ·rw [if_neg hkl] at hk;rw [ck (Ne.symm hkl)] at hs;exact .inr (.inl ⟨k,c,a,s,hk,hs⟩)
  ·exact .inr (.inr hq)
 have hg:Grow top w σ L w' (supd σ l (w.heap.size,0,cs.size)) (lset L l (some cells)):=by
  refine ⟨by omega,fun k y _ hy=>?_,fun β hb hn=>⟨fun ha=>?_,?_⟩,hout,fun _ q β add hq=>⟨hq,ho β (h.fr.fam q β add hq).1⟩⟩
  ·by_cases hkl:k=l
   ·subst hkl;rw [hf] at hy;simp at hy
   ·rw [ck hkl];exact hy
  ·rcases hav β ha with h1 | h1
   ·omega
   ·exact hn h1
  ·exact ho β hb
 refine ⟨⟨?_,?_,?_,?_,h.fr.mono (by omega) (fun _ _ _ k=>k) (fun _ _ _ k=>?_) fun q β add hq=>?_⟩,hg⟩
 ·intro k c hk
  rw [ao] at hk
  by_cases hkl:l=k
  ·subst hkl
   simp at hk;subst hk
   refine .inr ⟨w.heap.size,0,cs.size,cs,T,fr,⟨dJ _ _ _,hn,rfl,by omega,?_,hfr⟩⟩
   intro i x hx
   obtain ⟨v,hv1,hv2⟩:=hv i x hx
   exact ⟨v,by simpa using hv1,hv2.grow hg⟩
  ·rw [if_neg hkl] at hk
   rcases h.all k c hk with ⟨h1,h2⟩ | ⟨β,add,size,cc,TT,fr,hb⟩
   ·exact .inl ⟨by rw [ck (Ne.symm hkl)];exact h1,h2⟩
   ·have hlt:β<w.heap.size:=(Array.getElem?_eq_some_iff.1 hb.heap).1
    refine .inr ⟨β,add,size,cc,TT,fr,⟨by rw [ck (Ne.symm hkl)];exact hb.sig,by rw [ho β hlt];exact hb.heap,hb.hsz,hb.fits,?_,hb.frs⟩⟩
    intro i x hx
    obtain ⟨v,hv1,hv2⟩:=hb.vals i x hx
    exact ⟨v,hv1,hv2.grow hg⟩
 ·intro k k' c c' β a s a' s' hk hk' hs hs'
  rw [ao] at hk hk'
  by_cases h1:l=k
  ·by_cases h2:l=k'
   ·omega
   ·subst h1
    rw [if_neg h2] at hk'
    rw [dJ] at hs;rw [ck (Ne.symm h2)] at hs'
    simp at hs
    have:=h.lt (.inl ⟨k',c',a',s',hk',hs'⟩)
    omega
  ·rw [if_neg h1] at hk;rw [ck (Ne.symm h1)] at hs
   by_cases h2:l=k'
   ·subst h2
    rw [dJ] at hs'
    simp at hs'
    have:=h.lt (.inl ⟨k,c,a,s,hk,hs⟩)
    omega
   ·rw [if_neg h2] at hk';rw [ck (Ne.symm h2)] at hs'
    exact h.inj k k' c c' β a s a' s' hk hk' hs hs'
 ·intro k x hs
  by_cases h1:k=l
  ·subst h1;rw [ao];simp
  ·rw [ck h1] at hs
   exact di (h.dom k x hs)
 ·intro β hA
  obtain ⟨h1,h2⟩:=h.lo β hA
  refine ⟨by omega,fun ha=>?_⟩
  rcases hav β ha with h3 | h3
  ·omega
  ·exact h2 h3
 ·exact ho _ (h.fr.fam _ _ _ k).1
 ·rintro ⟨k,c,a,s,hk,hs⟩
  have h1:=(h.fr.fam _ _ _ hq).1
  rw [ao] at hk
  by_cases hkl:l=k
  ·subst hkl;rw [dJ] at hs;simp at hs;omega
  ·rw [if_neg hkl] at hk;rw [ck (Ne.symm hkl)] at hs;exact ⟨k,c,a,s,hk,hs⟩
theorem BR.write {w w':World} {σ:Sig} {A:Nat->Prop} {L:Lb} (h:BR w σ A L) {l:Nat} {cells cells':List PV} (hl:lget L l=some (some cells))
  {β add size:Nat} {c c':Array Value} {T:TypeId} {fr:Nat×Nat} (hb:Blk w σ (avo A σ L) l cells β add size c T fr)
  (hsz:w'.heap.size=w.heap.size) (ho:∀k,k≠β->w'.heap[k]?=w.heap[k]?) (hw:w'.heap[β]?=some (.cells c' T fr)) (hc:c'.size=size)
  (hfit:add+cells'.length<=size) (hv:∀(i:Nat) (x:PV),cells'[i]?=some x->∃v,c'[add+i]?=some v/\VR w σ (avo A σ L) x v) (hout:w'.os=w.os/\w'.output=w.output/\w'.tape=w.tape:=by first | exact ⟨rfl,rfl,rfl⟩ | assumption) :
  BR w' σ A (lset L l (some cells'))/\Grow top w σ L w' σ (lset L l (some cells')):=by
 have hlab:∀γ,cd σ (lset L l (some cells')) γ<->cd σ L γ:=by
  intro γ
  constructor
  ·rintro ⟨k,d,a,s,hk,hs⟩
   rw [ao] at hk
   by_cases hkl:l=k
   ·subst hkl;exact ⟨l,cells,a,s,hl,hs⟩
   ·rw [if_neg hkl] at hk;exact ⟨k,d,a,s,hk,hs⟩
  ·rintro ⟨k,d,a,s,hk,hs⟩
   by_cases hkl:l=k
   ·subst hkl;exact ⟨l,cells',a,s,by rw [ao];simp,hs⟩
   ·exact ⟨k,d,a,s,by rw [ao,if_neg hkl];exact hk,hs⟩
 have hav:∀γ,avOf σ (lset L l (some cells')) γ<->avOf σ L γ:=fun γ=>or_congr (hlab γ) Iff.rfl
 have hβl:cd σ L β:=⟨l,cells,add,size,hl,hb.sig⟩
 have hβ:avOf σ L β:=.inl hβl
 have hg:Grow top w σ L w' σ (lset L l (some cells')):=
  ⟨by omega,fun _ _ _ h=>h,fun γ hγ hn=>⟨fun ha=>hn ((hav γ).1 ha),ho γ (fun e=>hn (e▸hβ))⟩,hout,fun _ q γ ad hq=>⟨hq,ho γ fun e=>(h.fr.fam q γ ad hq).2 (e▸hβl)⟩⟩
 refine ⟨⟨?_,?_,?_,?_,h.fr.mono (by omega) (fun _ _ _ k=>k) (fun q γ ad hq=>ho γ fun e=>(h.fr.fam q γ ad hq).2 (e▸hβl)) fun _ γ _ _=>(hlab γ).1⟩,hg⟩
 ·intro k d hk
  rw [ao] at hk
  by_cases hkl:l=k
  ·subst hkl
   simp at hk;subst hk
   refine .inr ⟨β,add,size,c',T,fr,⟨hb.sig,hw,hc,hfit,?_,hb.frs⟩⟩
   intro i x hx
   obtain ⟨v,h1,h2⟩:=hv i x hx
   exact ⟨v,h1,h2.grow hg⟩
  ·rw [if_neg hkl] at hk
   rcases h.all k d hk with h1 | ⟨γ,add',size',cc,TT,fr',hb'⟩
   ·exact .inl h1
   ·have hne:γ≠β:=fun e=>hkl (h.inj l k cells d β add size add' size' hl hk hb.sig (by rw [<-e];exact hb'.sig))
    refine .inr ⟨γ,add',size',cc,TT,fr',⟨hb'.sig,by rw [ho γ hne];exact hb'.heap,hb'.hsz,hb'.fits,?_,hb'.frs⟩⟩
    intro i x hx
    obtain ⟨v,h1,h2⟩:=hb'.vals i x hx
    exact ⟨v,h1,h2.grow hg⟩
 ·intro k k' d d' γ a s a' s' hk hk' hs hs'
  have e1:∃d,lget L k=some (some d):=by
   rw [ao] at hk;by_cases hkl:l=k
   ·subst hkl;exact ⟨_,hl⟩
   ·rw [if_neg hkl] at hk;exact ⟨_,hk⟩
  have e2:∃d,lget L k'=some (some d):=by
   rw [ao] at hk';by_cases hkl:l=k'
   ·subst hkl;exact ⟨_,hl⟩
   ·rw [if_neg hkl] at hk';exact ⟨_,hk'⟩
  obtain ⟨d1,e1⟩:=e1;obtain ⟨d2,e2⟩:=e2
  exact h.inj k k' d1 d2 γ a s a' s' e1 e2 hs hs'
 ·intro k x hs
  exact di (h.dom k x hs)
 ·intro γ hA
  obtain ⟨h1,h2⟩:=h.lo γ hA
  exact ⟨by omega,fun ha=>h2 ((hav γ).1 ha)⟩
theorem BR.drop {w:World} {σ:Sig} {A:Nat->Prop} {L:Lb} (h:BR w σ A L) (l:Nat) :
  BR w σ A (lset L l none)/\Grow top w σ L w σ (lset L l none):=by
 have hlab:∀γ,cd σ (lset L l none) γ->cd σ L γ:=by
  rintro γ ⟨k,d,a,s,hk,hs⟩
  rw [ao] at hk
  by_cases hkl:l=k
  ·rw [if_pos hkl] at hk;simp at hk
  ·rw [if_neg hkl] at hk;exact ⟨k,d,a,s,hk,hs⟩
 have hav:∀γ,avOf σ (lset L l none) γ->avOf σ L γ:=fun γ h=>h.imp (hlab γ) id
 have hg:Grow top w σ L w σ (lset L l none):=⟨Nat.le_refl _,fun _ _ _ h=>h,fun γ _ hn=>⟨fun ha=>hn (hav γ ha),rfl⟩,⟨rfl,rfl,rfl⟩,fun _ _ _ _ h=>⟨h,rfl⟩⟩
 refine ⟨⟨?_,?_,?_,?_,h.fr.mono (Nat.le_refl _) (fun _ _ _ k=>k) (fun _ _ _ _=>rfl) fun _ γ _ _=>hlab γ⟩,hg⟩
 ·intro k d hk
  rw [ao] at hk
  by_cases hkl:l=k
  ·rw [if_pos hkl] at hk;simp at hk
  ·rw [if_neg hkl] at hk
   rcases h.all k d hk with h1 | ⟨γ,add',size',cc,TT,fr',hb'⟩
   ·exact .inl h1
   ·exact .inr ⟨γ,add',size',cc,TT,fr',⟨hb'.sig,hb'.heap,hb'.hsz,hb'.fits,fun i x hx=>let ⟨v,h1,h2⟩:=hb'.vals i x hx;⟨v,h1,h2.grow hg⟩,hb'.frs⟩⟩
 ·intro k k' d d' γ a s a' s' hk hk' hs hs'
  rw [ao] at hk hk'
  by_cases h1:l=k
  ·rw [if_pos h1] at hk;simp at hk
  ·by_cases h2:l=k'
   ·rw [if_pos h2] at hk';simp at hk'
   ·rw [if_neg h1] at hk;rw [if_neg h2] at hk'
    exact h.inj k k' d d' γ a s a' s' hk hk' hs hs'
 ·intro k x hs
  exact di (h.dom k x hs)
 ·intro γ hA
  obtain ⟨h1,h2⟩:=h.lo γ hA
  exact ⟨h1,fun ha=>h2 (hav γ ha)⟩
theorem BR.notAv {w:World} {σ:Sig} {A:Nat->Prop} {L:Lb} (h:BR w σ A L) {r:Nat} {o:Obj} (ho:w.heap[r]?=some o) (hc:∀c T fr,o ≠ .cells c T fr):¬avOf σ L r:=by
 rintro (⟨l,cells,a,s,h1,h2⟩ | ⟨q,add,hq⟩)
 rotate_left
 ·obtain ⟨c,T,fr,e⟩:=h.fr.cel q r add hq
  rw [ho] at e;simp at e;subst e
  exact hc _ _ _ rfl
 rcases h.all l cells h1 with ⟨h3,_⟩ | ⟨β,add,size,c,T,fr,hB⟩
 ·rw [h3] at h2;simp at h2
 ·have:=hB.sig
  rw [h2] at this;simp at this
  obtain ⟨rfl,_,_⟩:=this
  have:=hB.heap
  rw [ho] at this;simp at this;subst this
  exact hc _ _ _ rfl
theorem CJ.grow {w w':World} {σ σ':Sig} {A K:Nat->Prop} {L L':Lb} {mb:Option Nat} {ds:List Deferred} (h:CJ w mb ds) (hb:BR w σ A L) (hg:Grow K w σ L w' σ' L'):CJ w' mb ds:=by
 cases mb with
 | none=>exact h
 | some b=>
  refine ⟨Nat.le_trans h.1 hg.size,fun d hd=>?_,h.2.2⟩
  obtain ⟨r,h1,h2,h3⟩:=h.2.1 d hd
  exact ⟨r,h1,h2,((hg.keep r (Array.getElem?_eq_some_iff.1 h3).1 (hb.notAv h3 (fun _ _ _ h=>by cases h))).2).trans h3⟩
theorem Rel.grow {E:Env} {A:Nat->Prop} {w w':World} {σ σ':Sig} {al:Al} {L L':Lb} {a:Act} (h:Rel E A w σ al L a) (hb:BR w' σ' A L') (hg:Grow top w σ L w' σ' L'):Rel E A w' σ' al L' a:=
 ⟨fun t x hx=>let ⟨v,h1,h2⟩:=h.tmps t x hx;⟨v,h1,h2.grow hg⟩,hb,fun g cells hc=>(h.globals g cells hc).grow hg,h.nodefer.grow h.blocks hg⟩
def oset (d:Option Tmp) (x:PV) (al:Al):Al:=match d with | some t=>(t,x)::al | none=>al
theorem Rel.put {E:Env} {A:Nat->Prop} {w:World} {σ:Sig} {al:Al} {L:Lb} {a:Act} (h:Rel E A w σ al L a) {d:Option Tmp} (hd:∀t,d=some t->t<a.tmps.size) {x:PV} {c:Value}
  (hv:VR w σ (avo A σ L) x c):Rel E A w σ (oset d x al) L (a.put d c):=by
 refine ⟨?_,h.blocks,h.globals,?_⟩
 ·intro t y hy
  cases d with
  | none=>exact h.tmps t y hy
  | some k=>
   simp only [oset,lget] at hy
   have hk:=hd k rfl
   split at hy
   ·rename_i e;subst e;simp at hy;subst hy
    exact ⟨c,by simp [Act.put,hk],hv⟩
   ·rename_i e
    obtain ⟨v,h1,h2⟩:=h.tmps t y hy
    exact ⟨v,by simp [Act.put,e,h1],h2⟩
 ·cases d <;> exact h.nodefer
theorem kA (a:Act) (d:Option Tmp) (c:Value):(a.put d c).tmps.size=a.tmps.size:=by cases d <;> simp [Act.put]
theorem oC {P:Program} {o:Oper} {a:Act} {w:World} {next next':Act->World->Prop} {Q Q':Exit->Act->World->Prop} (h:o.wp P a w next Q)
  (hn:∀a w,next a w->next' a w) (hq:∀e a w,Q e a w->Q' e a w):o.wp P a w next' Q':=by
 unfold Oper.wp at *
 unfold Oper.upon at *
 split at h
 ·exact hn _ _ h
 ·exact hn _ _ h
 ·exact hn _ _ h
 ·refine Calls.mono h ?_
  rintro e w' he
  cases e with
  | returned v=>exact hn _ _ he
  | panicked ch=>exact hq _ _ _ he
  | outgrown=>obtain ⟨a,w,h⟩:=he;exact ⟨a,w,hq _ _ _ h⟩
 ·exact Rows.mono h fun _ _=>hn _ _
 ·exact hq _ _ _ h
 ·exact h.elim
def H7 (A:Nat->Prop) (w:World) (σ:Sig) (L:Lb) (a:Act) (d:Option Tmp) (x:PV) (wl:Lb) (a':Act) (w':World):Prop:=
 ∃σ' c,a'=a.put d c/\VR w' σ' (avo A σ' (lupd L wl)) x c/\BR w' σ' A (lupd L wl)/\Grow top w σ L w' σ' (lupd L wl)
def AOp (E:Env) (o:Oper) (ra:Al) (rl:Lb) (x:PV) (wl:Lb):Prop:=
 ∀A w σ al L a,Rel E A w σ al L a->(∀t y,lget ra t=some y->lget al t=some y)->(∀l y,lget rl l=some y->lget L l=some y)->(∀p∈wl,lget rl p.1≠none\/lget L p.1=none) ->
  o.wp E.P a w (H7 A w σ L a o.dst x wl) fun _ _ _=>False
def AWl (E:Env) (K:Nat->Prop) (n:Nat) (ops:Array Oper) (rest:List Oper) (Q:Exit->Al->Lb->Prop) (al:Al) (L:Lb):Prop:=
 ∀A w σ a,Rel E A w σ al L a->a.tmps.size=n->wpListIn (fen E.ro) 0 E.P ops (Post E K A w σ L n Q) rest a w
section
variable {E:Env} {K:Nat->Prop} {n:Nat} {al:Al} {L:Lb} {ops:Array Oper} {rest:List Oper} {o:Oper} {Q:Exit->Al->Lb->Prop}
theorem gL {F:Fence} {m:Nat} {P:Program} {o:Oper} {a:Act} {w:World} {next next':Act->World->Prop} {Q Q':Exit->Act->World->Prop} (h:o.wpIn F m P a w next Q)
  (hn:∀a w,next a w->next' a w) (hq:∀e a w,Q e a w->Q' e a w):o.wpIn F m P a w next' Q':=by
 refine ⟨h.1,?_⟩
 have h2:=h.2
 unfold Oper.uponIn at *
 split at h2
 ·exact hn _ _ h2
 ·exact hn _ _ h2
 ·exact hn _ _ h2
 ·refine ⟨h2.1,h2.2.1,fun cs hr=>?_⟩
  obtain ⟨e,w',fr,he,rest⟩:=h2.2.2 cs hr
  refine ⟨e,w',fr,?_,rest⟩
  cases e with
  | returned v=>exact hn _ _ he
  | panicked ch=>exact hq _ _ _ he
  | outgrown=>obtain ⟨a,w,h⟩:=he;exact ⟨a,w,hq _ _ _ h⟩
 ·exact ⟨h2.1,h2.2.mono fun _ _=>hn _ _⟩
 ·refine ⟨h2.1,h2.2.mono ?_⟩
  rintro e w' he
  cases e with
  | returned v=>exact hn _ _ he
  | panicked ch=>exact hq _ _ _ he
  | outgrown=>obtain ⟨a,w,h⟩:=he;exact ⟨a,w,hq _ _ _ h⟩
 ·exact hq _ _ _ h2
 ·exact h2.elim
theorem cF {F:Fence} {m:Nat} {P:Program} {ops:Array Oper} {Q Q':Exit->Act->World->Prop} (hq:∀e a w,Q e a w->Q' e a w):∀(l:List Oper) (a:Act) (w:World),wpListIn F m P ops Q l a w->wpListIn F m P ops Q' l a w
 | [],a,w,h=>hq _ _ _ h
 | o::r,a,w,h=>by
  simp only [wpListIn] at *
  split
  ·rename_i hw
   rw [if_pos hw] at h
   exact gL h (fun a w=>cF hq r a w) hq
  ·rename_i hw
   rw [if_neg hw] at h
   exact ⟨h.1,cF hq r _ _ h.2⟩
theorem qx {ro:Option Nat} {m:Nat} {P:Program} {o:Oper} {a:Act} {w:World} {next:Act->World->Prop} {Q:Exit->Act->World->Prop} (hd:∀c,o.op ≠ .defer c) (h:o.wp P a w next Q):o.wpIn (fen ro) m P a w next Q:=by
 refine ⟨fun _ _=>trivial,?_⟩
 rw [Oper.semAt_eq _ _ _ hd]
 unfold Oper.wp at h
 unfold Oper.upon at h
 unfold Oper.uponIn
 split at h
 ·rename_i heq;rw [heq];exact h
 ·rename_i heq;rw [heq];exact h
 ·rename_i heq;rw [heq];exact h
 ·rename_i heq;rw [heq];exact ⟨fun h=>by simp [Fence.wide] at h,pT h⟩
 ·rename_i heq;rw [heq]
  refine ⟨fun h=>by simp [Fence.wide] at h,fun c cs _=>?_⟩
  obtain ⟨v,w',h1,h2⟩:=h c cs
  exact ⟨v,w',h1,stepsIn_wide.2 h2⟩
 ·rename_i heq;rw [heq];exact h
 ·exact h.elim
theorem ur {P:Program} {o:Oper} {a:Act} {w:World} {next:Act->World->Prop} (h:o.wp P a w next fun _ _ _=>False) (hn:∀a' w',next a' w'->a'.defers=a.defers):∀c,o.op ≠ .defer c:=by
 intro c hc
 unfold Oper.wp at h
 have e:execOp a.eval o=(do pure (.defer (<-resolve a.eval c o.type))):=by unfold execOp;rw [hc]
 rw [e] at h
 simp only [Sem.run_bind] at h
 cases hr:(resolve a.eval c o.type).run P w with
 | ok d w'=>
  rw [hr] at h
  simp only [Result.andThen_ok,Sem.run_pure] at h
  rw [Oper.upon_defer] at h
  have:=hn _ _ h
  have e2:∀(b:Act) (d:Option Tmp) (v:Value),(b.put d v).defers=b.defers:=fun b d v=>by cases d <;> rfl
  rw [e2] at this
  have:=congrArg List.length this
  simp at this
 | halt x w'=>
  rw [hr] at h
  simp only [Result.andThen] at h
  unfold Oper.upon at h
  split at h <;> first | exact h.elim | (rename_i heq;simp at heq)
theorem nY (b:Act) (d:Option Tmp) (v:Value):(b.put d v).defers=b.defers:=by cases d <;> rfl
theorem qy (h:Q .normal al L):AWl E K n ops [] Q al L:=fun A w σ a r t=>⟨al,L,σ,h,r,Grow.refl _ _ _ _,t⟩
theorem nJ {id:Nat} {ops:Array Oper} (h:AWl E K n ops ops.toList Q al L):AW E K n (.region id ops false) Q al L:=
 fun A w σ a r t=>wpIn_region_list (h A w σ a r t)
def ge (ops:Array Oper) (al:Al) (o:Oper):Option Bool:=
 match o.guard with
 | none=>some true
 | some (j,want)=>match (ops[j]?).bind (·.dst) with
  | some d=>match lget al d with
   | some (.bool b)=>some (b==want)
   | some .dead=>some false
   | _=>none
  | none=>none
theorem km {A:Nat->Prop} {w:World} {σ:Sig} {a:Act} (r:Rel E A w σ al L a) {b:Bool} (h:ge ops al o=some b):Region.wanted o (yielded ops a.tmps)=b:=by
 unfold ge at h
 unfold Region.wanted
 split at h
 ·rename_i hg;rw [hg];simp at h;exact h.symm▸rfl
 ·rename_i j want hg
  rw [hg]
  split at h
  ·rename_i d hd
   split at h
   ·rename_i c hc
    obtain ⟨v,hv,hr⟩:=r.tmps d _ hc
    cases hr
    simp at h
    simp only [yielded,hd,Option.bind_some,hv]
    rw [<-h]
    cases c <;> cases want <;> rfl
   ·rename_i hc
    obtain ⟨v,hv,hr⟩:=r.tmps d _ hc
    cases hr
    simp at h
    simp only [yielded,hd,Option.bind_some,hv]
    rw [h]
    cases want <;> rfl
   ·simp at h
  ·simp at h
theorem pY {ra:Al} {rl:Lb} {x:PV} {wl:Lb} (h:AOp E o ra rl x wl) (hd:∀t,o.dst=some t->t<n) (h1:∀t y,lget ra t=some y->lget al t=some y) (h2:∀l y,lget rl l=some y->lget L l=some y)
  (h3:∀p∈wl,lget rl p.1≠none\/lget L p.1=none) (hg:ge ops al o=some true)
  (k:AWl E K n ops rest Q (oset o.dst x al) (lupd L wl)):AWl E K n ops (o::rest) Q al L:=by
 intro A w σ a r t
 simp only [wpListIn]
 rw [if_pos (km r hg)]
 have hop:=h A w σ al L a r h1 h2 h3
 refine gL (qx (ur hop ?_) hop) ?_ fun _ _ _ h=>h.elim
 ·rintro a' w' ⟨σ',c,rfl,_⟩;exact nY _ _ _
 rintro a' w' ⟨σ',c,rfl,hv,hb,hgr⟩
 have r':=(r.grow hb hgr).put (d:=o.dst) (fun u hu=>by rw [t];exact hd u hu) hv
 refine cF ?_ _ _ _ (k A w' σ' _ r' (by rw [kA];exact t))
 exact fun e a w h=>Post.trans (hgr.weaken fun _ _=>trivial) h
theorem CP (hg:ge ops al o=some false) (hd:∀t,o.dst=some t->t<n)
  (k:AWl E K n ops rest Q (oset o.dst .dead al) L):AWl E K n ops (o::rest) Q al L:=by
 intro A w σ a r t
 simp only [wpListIn]
 rw [if_neg (by rw [km r hg];simp)]
 refine ⟨fun _ _=>trivial,?_⟩
 exact k A w σ _ (r.put (d:=o.dst) (fun u hu=>by rw [t];exact hd u hu) .dead) (by rw [kA];exact t)
end
end Go.SH
namespace Go.SH
def cpv0:Value->Option PV
 | .bool b=>some (.bool b)
 | .int k n=>some (.int k n)
 | .string s=>some (.str s.data.toList)
 | .pointer none=>some .nilp
 | .slice none 0 0=>some .nils
 | .nilFunc=>some .nilf
 | .nilIface=>some .nili
 | _=>none
def cpvs:List Value->Option (List PV)
 | []=>some []
 | v::r=>match cpv0 v,cpvs r with
  | some x,some xs=>some (x::xs)
  | _,_=>none
def cpv:Value->Option PV
 | .agg cs=>(cpvs cs.toList).map .agg
 | .tuple cs=>(cpvs cs.toList).map .tup
 | v=>cpv0 v
def xev (G:List (Nat×List PV)) (al:Al):Operand->Option PV
 | .tmp t=>lget al t
 | .const v=>cpv v
 | .global g=>(lget G g).map (.rop · 0)
 | .func f=>some (.fn f [])
section
variable {w:World} {σ:Sig} {av:Nat->Prop}
theorem ES {v:Value} {x:PV} (h:cpv0 v=some x):VR w σ av x v:=by
 unfold cpv0 at h
 split at h <;> simp at h <;> subst h
 ·exact .bool _
 ·exact .int _ _
 ·rename_i s;exact VR.str s.data.toList
 ·exact .nilp
 ·exact .nils
 ·exact .nilf
 ·exact .nili
theorem tL:∀{vs:List Value} {xs:List PV},cpvs vs=some xs->xs.length=vs.length/\∀(i:Nat) (x:PV) (v:Value),xs[i]?=some x->vs[i]?=some v->VR w σ av x v
 | [],xs,h=>by simp [cpvs] at h;subst h;simp
 | v::r,xs,h=>by
  simp only [cpvs] at h
  split at h
  ·rename_i x ys h1 h2
   simp at h;subst h
   obtain ⟨hl,hv⟩:=tL h2
   refine ⟨by simp [hl],fun i y u hy hu=>?_⟩
   cases i with
   | zero=>simp at hy hu;subst hy;subst hu;exact ES h1
   | succ i=>exact hv i y u (by simpa using hy) (by simpa using hu)
  ·simp at h
theorem KG {v:Value} {x:PV} (h:cpv v=some x):VR w σ av x v:=by
 unfold cpv at h
 split at h
 ·rename_i cs
  simp only [Option.map_eq_some_iff] at h
  obtain ⟨xs,h,rfl⟩:=h
  obtain ⟨hl,hv⟩:=tL (w:=w) (σ:=σ) (av:=av) h
  exact VR.agg cs.toList hl hv
 ·rename_i cs
  simp only [Option.map_eq_some_iff] at h
  obtain ⟨xs,h,rfl⟩:=h
  obtain ⟨hl,hv⟩:=tL (w:=w) (σ:=σ) (av:=av) h
  exact VR.tup cs.toList hl hv
 ·exact ES h
end
theorem aQ {E:Env} {A:Nat->Prop} {w:World} {σ:Sig} {al:Al} {L:Lb} {a:Act} (r:Rel E A w σ al L a) {ra:Al} (h1:∀t y,lget ra t=some y->lget al t=some y)
  {o:Operand} {x:PV} (h:xev E.G ra o=some x):VR w σ (avo A σ L) x (a.eval o):=by
 cases o with
 | tmp t=>
  obtain ⟨v,hv,hr⟩:=r.tmps t x (h1 t x h)
  rw [lO hv];exact hr
 | const v=>exact KG h
 | global g=>
  simp only [xev,Option.map_eq_some_iff] at h
  obtain ⟨cells,hg,rfl⟩:=h
  exact r.globals g cells hg
 | func f=>
  simp only [xev,Option.some.injEq] at h
  subst h
  exact .fn f [] rfl (by simp)
theorem bA {E:Env} {o:Oper} {ra:Al} {rl:Lb} {x:PV}
  (h:∀A w σ al L a,Rel E A w σ al L a->(∀t y,lget ra t=some y->lget al t=some y)->(∀l y,lget rl l=some y->lget L l=some y) ->
   ∃c,(execOp a.eval o).run E.P w = .ok (.value c) w/\VR w σ (avo A σ L) x c):AOp E o ra rl x []:=by
 intro A w σ al L a r h1 h2 _
 obtain ⟨c,hr,hv⟩:=h A w σ al L a r h1 h2
 unfold Oper.wp
 rw [hr]
 exact ⟨σ,c,rfl,hv,r.blocks,Grow.refl _ _ _ _⟩
def fG (L:Lb):PV->Option (List PV×Nat)
 | .ptr l off=>match lget L l with | some (some cells)=>some (cells,off) | _=>none
 | .rop cells off=>some (cells,off)
 | _=>none
theorem fK {w:World} {β j:Nat} {c:Array Value} {T:TypeId} {fr:Nat×Nat} (h:w.heap[β]?=some (.cells c T fr)):w.cell? ⟨β,j,none⟩=c[j]?:=by simp [World.cell?,h]
theorem qh {w:World} {σ:Sig} {A:Nat->Prop} {L:Lb} (hb:BR w σ A L) {p:PV} {v:Value} (hv:VR w σ (avo A σ L) p v) {cells:List PV} {off:Nat} (h:fG L p=some (cells,off))
  (hne:cells≠[]):∃β o,v = .pointer (some ⟨β,o+off,none⟩)/\∀i x,cells[i]?=some x->∃u,w.cell? ⟨β,o+i,none⟩=some u/\VR w σ (avo A σ L) x u:=by
 cases hv with
 | ptr hs=>
  rename_i l off' β add size
  simp only [fG] at h
  split at h
  ·rename_i cs hl
   simp at h;obtain ⟨rfl,rfl⟩:=h
   rcases hb.all l cs hl with ⟨_,h2⟩ | ⟨β',add',size',c,T,fr,hB⟩
   ·exact absurd h2 hne
   ·have:=hB.sig;rw [hs] at this;simp at this
    obtain ⟨rfl,rfl,rfl⟩:=this
    refine ⟨β,add,rfl,fun i x hx=>?_⟩
    obtain ⟨u,h1,h2⟩:=hB.vals i x hx
    exact ⟨u,by rw [fK hB.heap];exact h1,h2⟩
  ·simp at h
 | rop cs him hl hv=>
  rename_i cells' off' β add
  simp only [fG,Option.some.injEq,Prod.mk.injEq] at h
  obtain ⟨rfl,rfl⟩:=h
  refine ⟨β,add,rfl,fun i x hx=>?_⟩
  have hi:i<cs.length:=by rw [<-hl];exact (List.getElem?_eq_some_iff.1 hx).1
  exact ⟨cs[i],him.cell i _ (List.getElem?_eq_getElem hi),hv i x _ hx (List.getElem?_eq_getElem hi)⟩
 | _=>simp [fG] at h
def dS (P:Program) (T:TypeId):Option Bool:=match P.underlying T with
 | some (.struct _) | some (.array _ _)=>some true
 | some _=>some false
 | none=>none
def kg (P:Program) (T:TypeId) (L:Lb) (p:PV):Option PV:=
 match fG L p,P.info? T,dS P T with
 | some (cells,off),some i,some true=>if off+i.size<=cells.length/\0<i.size then some (.agg ((cells.drop off).take i.size)) else none
 | some (cells,off),some _,some false=>cells[off]?
 | _,_,_=>none
theorem nc {P:Program} {T:TypeId} {b:Bool} (h:dS P T=some b) (w:World):(isAgg T).run P w = .ok b w:=by
 unfold dS at h
 unfold isAgg
 split at h <;> simp at h <;> (rename_i hu;subst h;simp [Sem.run_bind,run_underlying hu w])
theorem bm {P:Program} {T:TypeId} {i:TypeInfo} (h:P.info? T=some i) (w:World):(sizeOf T).run P w = .ok i.size w:=by
 simp [sizeOf,typeInfo,h]
theorem ob {P:Program} {w:World} {σ:Sig} {av:Nat->Prop} {T:TypeId} {β o off:Nat} {cells:List PV} (hc:∀i x,cells[i]?=some x->∃u,w.cell? ⟨β,o+i,none⟩=some u/\VR w σ av x u)
  {i:TypeInfo} (hi:P.info? T=some i) {b:Bool} (hr:dS P T=some b) {x:PV}
  (hx:(b=true/\off+i.size<=cells.length/\x = .agg ((cells.drop off).take i.size))\/(b=false/\cells[off]?=some x)) :
  ∃v,(loadVar T ⟨β,o+off,none⟩).run P w = .ok v w/\VR w σ av x v:=by
 rcases hx with ⟨rfl,hle,rfl⟩ | ⟨rfl,hx⟩
 ·let f:Nat->Value:=fun j=>((w.cell? ⟨β,o+(off+j),none⟩).getD undef)
  have hl:∀j,j<i.size->w.cell? ((⟨β,o+off,none⟩:Addr).add j)=some (f j):=by
   intro j hj
   have hj':off+j<cells.length:=by omega
   obtain ⟨u,hu,_⟩:=hc (off+j) _ (List.getElem?_eq_getElem hj')
   have:(⟨β,o+off,none⟩:Addr).add j=⟨β,o+(off+j),none⟩:=by unfold Addr.add;split <;> simp_all [Nat.add_assoc]
   rw [this,hu];simp [f,hu]
  refine ⟨.agg ((List.range i.size).map f).toArray,?_,?_⟩
  ·simp [loadVar,nc hr,bm hi,run_loadCells w _ i.size f hl]
  ·refine VR.agg _ (by simp;omega) ?_
   intro j y v hy hv
   have hj:j<i.size:=by
    have:=(List.getElem?_eq_some_iff.1 hv).1;simpa using this
   have hy':cells[off+j]?=some y:=by
    rw [List.getElem?_take,if_pos hj,List.getElem?_drop] at hy;exact hy
   obtain ⟨u,hu,hvr⟩:=hc (off+j) y hy'
   have:v=u:=by
    simp [List.getElem?_map,List.getElem?_range hj,f,hu] at hv;exact hv.symm
   rw [this];exact hvr
 ·obtain ⟨u,hu,hv⟩:=hc off x hx
  exact ⟨u,by simp [loadVar,nc hr,run_load,hu],hv⟩
theorem kO {E:Env} {T:TypeId} {p:Operand} {d:Option Tmp} {ty:TypeId} {pos:String} {after:Array Edge} {g:Option (Nat×Bool)} {ra:Al} {rl:Lb} {q x:PV}
  (hp:xev E.G ra p=some q) (hx:kg E.P T rl q=some x):AOp E ⟨d,.load T p,ty,pos,after,g⟩ ra rl x []:=by
 refine bA fun A w σ al L a r h1 h2=>?_
 have hv:=aQ r h1 hp
 unfold kg at hx
 split at hx
 ·rename_i cells off i hlc hi hr
  split at hx
  ·rename_i hh
   simp at hx
   have hlc':fG L q=some (cells,off):=by
    cases q <;> simp only [fG] at hlc ⊢ <;> first | exact hlc | skip
    split at hlc
    ·rename_i cs hl;rw [h2 _ _ hl];exact hlc
    ·simp at hlc
   obtain ⟨β,o,he,hc⟩:=qh r.blocks hv hlc' (by intro h0;simp [h0] at hh;omega)
   obtain ⟨v,h3,h4⟩:=ob (P:=E.P) (off:=off) hc hi hr (.inl ⟨rfl,hh.1,hx.symm⟩)
   exact ⟨v,by simp [execOp,Instr.loadAt,he,Instr.sureAddr,h3],h4⟩
  ·simp at hx
 ·rename_i cells off i hlc hi hr
  have hlc':fG L q=some (cells,off):=by
   cases q <;> simp only [fG] at hlc ⊢ <;> first | exact hlc | skip
   split at hlc
   ·rename_i cs hl;rw [h2 _ _ hl];exact hlc
   ·simp at hlc
  obtain ⟨β,o,he,hc⟩:=qh r.blocks hv hlc' (by intro h0;simp [h0] at hx)
  obtain ⟨v,h3,h4⟩:=ob (P:=E.P) (off:=off) hc hi hr (.inr ⟨rfl,hx⟩)
  exact ⟨v,by simp [execOp,Instr.loadAt,he,Instr.sureAddr,h3],h4⟩
 ·simp at hx
end Go.SH
namespace Go.SH
def VC (w:World) (σ:Sig) (av:Nat->Prop) (row:Bool) (xs:List PV) (v:Value):Prop:=
 (row=true/\∃cs:List Value,v = .agg cs.toArray/\xs.length=cs.length/\∀(i:Nat) (x:PV) (u:Value),xs[i]?=some x->cs[i]?=some u->VR w σ av x u) \/
 (row=false/\∃x,xs=[x]/\VR w σ av x v)
theorem sJ {P:Program} {w:World} {σ:Sig} {av:Nat->Prop} {T:TypeId} {i:TypeInfo} {b:Bool} (hi:P.info? T=some i) (hr:dS P T=some b) {xs:List PV} {cs:List Value} (hl:xs.length=cs.length)
  (hv:∀(i:Nat) (x:PV) (u:Value),xs[i]?=some x->cs[i]?=some u->VR w σ av x u) (off:Nat) (hone:b=false->∃x,(xs.drop off).take i.size=[x]) :
  ∃v,(part T cs.toArray off).run P w = .ok v w/\VC w σ av b ((xs.drop off).take i.size) v:=by
 cases b with
 | true=>
  refine ⟨.agg ((cs.drop off).take i.size).toArray,?_,.inl ⟨rfl,_,rfl,by simp [hl],?_⟩⟩
  ·simp [part,nc hr,bm hi,List.take_drop]
  ·intro j x u hx hu
   rw [List.getElem?_take] at hx hu
   split at hx
   ·rename_i hj
    rw [if_pos hj] at hu
    rw [List.getElem?_drop] at hx hu
    exact hv _ x u hx hu
   ·simp at hx
 | false=>
  obtain ⟨x,hx⟩:=hone rfl
  have hx0:xs[off]?=some x:=by
   have:((xs.drop off).take i.size)[0]?=some x:=by rw [hx];rfl
   rw [List.getElem?_take] at this
   split at this
   ·rw [List.getElem?_drop] at this;simpa using this
   ·simp at this
  have hlt:off<cs.length:=by rw [<-hl];exact (List.getElem?_eq_some_iff.1 hx0).1
  refine ⟨cs[off],?_,.inr ⟨rfl,x,hx,hv off x _ hx0 (List.getElem?_eq_getElem hlt)⟩⟩
  simp [part,nc hr,hlt]
def xeqF (P:Program) (rec:TypeId->List PV->List PV->Option Bool) (xs ys:List PV):List Field->Option Bool
 | []=>some true
 | f::fs=>
  if f.name ≠ "_" then
   match P.info? f.type with
   | some i=>match rec f.type ((xs.drop f.offset).take i.size) ((ys.drop f.offset).take i.size),xeqF P rec xs ys fs with
    | some b,some c=>some (b&&c)
    | _,_=>none
   | none=>none
  else xeqF P rec xs ys fs
def xeqA (rec:List PV->List PV->Option Bool) (sz:Nat) (xs ys:List PV):List Nat->Option Bool
 | []=>some true
 | j::js=>match rec ((xs.drop (j*sz)).take sz) ((ys.drop (j*sz)).take sz),xeqA rec sz xs ys js with
  | some b,some c=>some (b&&c)
  | _,_=>none
def xeq (P:Program):Nat->TypeId->List PV->List PV->Option Bool
 | 0,_,_,_=>none
 | d+1,T,xs,ys=>
  match P.underlying T with
  | some (.struct fs)=>if P.stoodInHeld T then none else xeqF P (xeq P d) xs ys fs.toList
  | some (.array n e)=>match P.info? e with
   | some i=>xeqA (xeq P d e) i.size xs ys (List.range n)
   | none=>none
  | some .bool=>match xs,ys with
   | [.bool a],[.bool b]=>some (a==b)
   | _,_=>none
  | some (.int _)=>match xs,ys with
   | [.int k a],[.int k' b]=>if k=k' then some (a==b) else none
   | _,_=>none
  | some .string=>match xs,ys with
   | [.str a],[.str b]=>some (a==b)
   | _,_=>none
  | some (.pointer _)=>match xs,ys with
   | [.nilp],[.nilp]=>some true
   | [.nilp],[.ptr _ _]=>some false
   | [.nilp],[.rop _ _]=>some false
   | [.ptr _ _],[.nilp]=>some false
   | [.rop _ _],[.nilp]=>some false
   | _,_=>none
  | some (.slice _)=>match xs,ys with
   | [.nils],[.nils]=>some true
   | _,_=>none
  | some (.func _ _ _)=>match xs,ys with
   | [.nilf],[.nilf]=>some true
   | [.fn _ _],[.nilf]=>some false
   | _,_=>none
  | some (.interface _)=>match xs,ys with
   | [.nili],[.nili]=>some true
   | [.iface _ _],[.nili]=>some false
   | [.nili],[.iface _ _]=>some false
   | [.ev _ o],[.nili]=>some o.isNone
   | [.nili],[.ev _ o]=>some o.isNone
   | _,_=>none
  | _=>none
theorem Ef {P:Program} {d:Nat} {T:TypeId} {xs ys:List PV} {b:Bool} (h:xeq P (d+1) T xs ys=some b):∃r,dS P T=some r/\(r=false->(∃x,xs=[x])/\∃y,ys=[y]):=by
 unfold xeq at h
 unfold dS
 split at h <;> rename_i hu <;> (try rw [hu])
 ·exact ⟨true,rfl,by simp⟩
 ·exact ⟨true,rfl,by simp⟩
 all_goals first
  | (split at h <;> first | exact ⟨false,rfl,fun _=>⟨⟨_,rfl⟩,⟨_,rfl⟩⟩⟩ | simp at h)
  | simp at h
theorem Iw (a b:List UInt8):((⟨⟨a⟩⟩:ByteArray).toList==(⟨⟨b⟩⟩:ByteArray).toList)=(a==b):=by
 rw [ByteArray.toList_eq,ByteArray.toList_eq]
theorem C1 {P:Program} {w:World} {σ:Sig} {av:Nat->Prop}:∀(d D:Nat),d<=D->∀{T:TypeId} {xs ys:List PV} {b r:Bool} {u v:Value},xeq P d T xs ys=some b->dS P T=some r ->
  VC w σ av r xs u->VC w σ av r ys v->(Op.equalIn D T u v).run P w = .ok b w
 | 0,_,_,_,_,_,_,_,_,_,h,_,_,_=>by simp [xeq] at h
 | d+1,0,hD,_,_,_,_,_,_,_,_,_,_,_=>by omega
 | d+1,D+1,hD,T,xs,ys,b,r,u,v,h,hr,hx,hy=>by
  have hd:d<=D:=by omega
  unfold xeq at h
  split at h <;> rename_i hu
  ·-- struct
   rename_i fs
   have:r=true:=by simpa [dS,hu] using hr.symm
   subst this
   rcases hx with ⟨_,cs,rfl,hlx,hvx⟩ | ⟨h0,_⟩
   rcases hy with ⟨_,cs',rfl,hly,hvy⟩ | ⟨h0,_⟩
   ·split at h
    ·simp at h
    ·rename_i hs
     have hf:P.fieldsOf T=fs:=by simp [Program.fieldsOf,hu]
     rw [run_equalIn_struct w D T _ _ (by rw [hf];exact hu) (by simpa using hs),hf]
     generalize fs.toList=l at h
     clear hf hu hs
     induction l generalizing b with
     | nil=>simp [xeqF] at h;subst h;simp [Op.eqFields]
     | cons f fs' ih=>
      simp only [xeqF] at h
      simp only [Op.eqFields]
      split at h
      ·rename_i hn
       rw [if_pos hn]
       split at h
       ·rename_i i hi
        split at h
        ·rename_i b1 c1 hb hc
         simp at h;subst h
         cases d with
         | zero=>simp [xeq] at hb
         | succ d=>
         obtain ⟨r1,hr1,hone⟩:=Ef hb
         obtain ⟨p,hp,hpv⟩:=sJ (P:=P) hi hr1 hlx hvx f.offset (fun h=>(hone h).1)
         obtain ⟨q,hq,hqv⟩:=sJ (P:=P) hi hr1 hly hvy f.offset (fun h=>(hone h).2)
         have he:=C1 (d+1) D hd hb hr1 hpv hqv
         simp only [Sem.run_bind,hp,hq,he,Result.andThen_ok]
         cases b1
         ·simp
         ·simpa using ih _ hc
        ·simp at h
       ·simp at h
      ·rename_i hn
       rw [if_neg hn]
       exact ih _ h
   ·simp at h0
   ·simp at h0
  ·-- array
   rename_i n e
   have:r=true:=by simpa [dS,hu] using hr.symm
   subst this
   rcases hx with ⟨_,cs,rfl,hlx,hvx⟩ | ⟨h0,_⟩
   rcases hy with ⟨_,cs',rfl,hly,hvy⟩ | ⟨h0,_⟩
   ·split at h
    ·rename_i i hi
     rw [run_equalIn_array w D _ _ hu hi]
     have hsz:P.cellsOf e=i.size:=by simp [Program.cellsOf,hi]
     rw [hsz]
     generalize List.range n=l at h
     clear hu
     induction l generalizing b with
     | nil=>simp [xeqA] at h;subst h;simp [Op.eqItems]
     | cons j js ih=>
      simp only [xeqA] at h
      simp only [Op.eqItems]
      split at h
      ·rename_i b1 c1 hb hc
       simp at h;subst h
       cases d with
       | zero=>simp [xeq] at hb
       | succ d=>
       obtain ⟨r1,hr1,hone⟩:=Ef hb
       obtain ⟨p,hp,hpv⟩:=sJ (P:=P) hi hr1 hlx hvx (j*i.size) (fun h=>(hone h).1)
       obtain ⟨q,hq,hqv⟩:=sJ (P:=P) hi hr1 hly hvy (j*i.size) (fun h=>(hone h).2)
       have he:=C1 (d+1) D hd hb hr1 hpv hqv
       simp only [Sem.run_bind,hp,hq,he,Result.andThen_ok]
       cases b1
       ·simp
       ·simpa using ih _ hc
      ·simp at h
    ·simp at h
   ·simp at h0
   ·simp at h0
  all_goals try (simp at h;done)
  all_goals
   have:r=false:=by simpa [dS,hu] using hr.symm
   subst this
   rcases hx with ⟨h0,_⟩ | ⟨_,x,rfl,hxv⟩
   ·simp at h0
   rcases hy with ⟨h0,_⟩ | ⟨_,y,rfl,hyv⟩
   ·simp at h0
   split at h
  all_goals try (simp at h;done)
  all_goals (rename_i e1 e2;simp only [List.cons.injEq,and_true] at e1 e2;subst e1;subst e2)
  ·cases hxv;cases hyv;simp at h;subst h;exact run_equalIn_bool' w D T _ _ hu
  ·cases hxv;cases hyv
   split at h
   ·rename_i hk;subst hk;simp at h;subst h;exact run_equalIn_int w D T _ _ _ _ hu
   ·simp at h
  ·cases hxv;cases hyv;simp at h;subst h;rw [run_equalIn_string w D T _ _ hu,Iw]
  all_goals (simp at h;subst h;cases hxv;cases hyv;first | (simp [Op.equalIn,run_underlying hu];done) | (rename_i o _;cases o <;> simp [evV,Op.equalIn,run_underlying hu]))
end Go.SH
namespace Go.SH
def aj (op:BinOp) (k:IntKind) (x y:Int):Int:=
 let a:=BitVec.ofInt k.bits x
 let b:=BitVec.ofInt k.bits y
 k.wrap ((match op with | .and=>a &&& b | .or=>a ||| b | .xor=>a ^^^ b | _=>a &&& ~~~b).toNat)
def ibin:BinOp->IntKind->Int->Int->Option PV
 | .add,k,a,b=>some (.int k (k.wrap (a+b)))
 | .sub,k,a,b=>some (.int k (k.wrap (a-b)))
 | .mul,k,a,b=>some (.int k (k.wrap (a*b)))
 | .and,k,a,b=>some (.int k (aj .and k a b))
 | .or,k,a,b=>some (.int k (aj .or k a b))
 | .xor,k,a,b=>some (.int k (aj .xor k a b))
 | .andNot,k,a,b=>some (.int k (aj .andNot k a b))
 | .eql,_,a,b=>some (.bool (a==b))
 | .neq,_,a,b=>some (.bool (a !=b))
 | .lss,_,a,b=>some (.bool (decide (a<b)))
 | .leq,_,a,b=>some (.bool (decide (a<=b)))
 | .gtr,_,a,b=>some (.bool (decide (a>b)))
 | .geq,_,a,b=>some (.bool (decide (a>=b)))
 | _,_,_,_=>none
def sbin:BinOp->List UInt8->List UInt8->Option PV
 | .eql,a,b=>some (.bool (a==b))
 | .neq,a,b=>some (.bool !(a==b))
 | .lss,a,b=>some (.bool (Op.bytesLess a b))
 | .geq,a,b=>some (.bool !(Op.bytesLess a b))
 | _,_,_=>none
def jF:Operand->Bool
 | .const _=>true
 | _=>false
def xeql (P:Program) (T:TypeId) (x y:Operand) (a b:PV):Option Bool:=
 match a,b with
 | .agg xs,.agg ys=>if P.eqGuardType P.depth T||dS P T !=some true then none else xeq P 20 T xs ys
 | .nili,.nili=>if (jF x||jF y)&&dS P T==some false then xeq P 20 T [.nili] [.nili] else none
 | .dead,_=>none
 | _,.dead=>none
 | .ev S o,.nili=>if (jF x||jF y)&&dS P T==some false then xeq P 20 T [.ev S o] [.nili] else none
 | .nili,.ev S o=>if (jF x||jF y)&&dS P T==some false then xeq P 20 T [.nili] [.ev S o] else none
 | .ev _ _,_=>none
 | _,.ev _ _=>none
 | .xc _ _,_=>none
 | _,.xc _ _=>none
 | a,b=>if dS P T !=some false then none else xeq P 20 T [a] [b]
def xbin (P:Program) (op:BinOp) (T:TypeId) (x y:Operand) (a b:PV):Option PV:=
 match a,b with
 | .int k n,.int k' m=>if k=k' then
   match op with
   | .quo=>if m=0 then none else some (.int k (k.wrap (n.tdiv m)))
   | .rem=>if m=0 then none else some (.int k (n.tmod m))
   | .shl=>if m<0 then none else some (.int k (k.wrap (n*2^(min m.toNat k.bits))))
   | .shr=>if m<0 then none else some (.int k (n.fdiv (2^(min m.toNat k.bits))))
   | _=>ibin op k n m
  else match op with
   | .shl=>if m<0 then none else some (.int k (k.wrap (n*2^(min m.toNat k.bits))))
   | .shr=>if m<0 then none else some (.int k (n.fdiv (2^(min m.toNat k.bits))))
   | _=>none
 | .str s,.str t=>sbin op s t
 | _,_=>match op with
  | .eql=>(xeql P T x y a b).map .bool
  | .neq=>(xeql P T x y a b).map fun c=>.bool (!c)
  | _=>none
section
variable {P:Program} {w:World} {σ:Sig} {av:Nat->Prop}
theorem yC {op:BinOp} {k:IntKind} {n m:Int} {x:PV} {T:TypeId} (h:ibin op k n m=some x):∃v,(binOp op T (.int k n) (.int k m)).run P w = .ok v w/\VR w σ av x v:=by
 cases op <;> simp only [ibin,Option.some.injEq] at h <;> first
  | (subst h;refine ⟨_,?_,.int _ _⟩;simp [binOp,Op.intArith,Op.intBits,aj])
  | (subst h;refine ⟨_,?_,.bool _⟩;simp [binOp,Op.intCmp])
  | simp at h
theorem dk {op:BinOp} {T:TypeId} {x y:Operand} {k k':IntKind} {n m:Int}:(eqGuard op T x y (.int k n) (.int k' m)).run P w = .ok () w:=by
 cases op <;> simp [eqGuard]
theorem oI {op:BinOp} {T:TypeId} {x y:Operand} {s t:ByteArray}:(eqGuard op T x y (.string s) (.string t)).run P w = .ok () w:=by
 cases op <;> simp [eqGuard]
theorem yB {op:BinOp} {s t:List UInt8} {x:PV} {T:TypeId} (h:sbin op s t=some x):∃v,(binOp op T (.string ⟨⟨s⟩⟩) (.string ⟨⟨t⟩⟩)).run P w = .ok v w/\VR w σ av x v:=by
 cases op <;> simp only [sbin,Option.some.injEq] at h <;> first
  | (subst h;refine ⟨_,?_,.bool _⟩;simp [binOp,Op.stringOp])
  | simp at h
theorem kS {op:BinOp} {T:TypeId} {x y:Operand} (h:(jF x||jF y)=true):(eqGuard op T x y .nilIface .nilIface).run P w = .ok () w:=by
 cases op <;> cases x <;> cases y <;> simp_all [eqGuard,jF]
def n6:Value->Value->Bool
 | .int _ _,.int _ _=>false
 | .float _ _,.float _ _=>false
 | .complex _ _ _,.complex _ _ _=>false
 | .string _,.string _=>false
 | _,_=>true
theorem Dk (T:TypeId) (o:Option Addr) (v:Value):n6 (evV T o) v=true:=by cases o <;> rfl
theorem Dj (T:TypeId) (o:Option Addr) (v:Value):n6 v (evV T o)=true:=by cases o <;> cases v <;> rfl
theorem AZ {T:TypeId} {u v:Value} (h:n6 u v=true):binOp .eql T u v=(do pure (.bool (<-Op.equal T u v)):Sem Value):=by
 unfold binOp
 split <;> first | rfl | contradiction | (simp [n6] at h;done)
theorem AY {T:TypeId} {u v:Value} (h:n6 u v=true):binOp .neq T u v=(do pure (.bool (!(<-Op.equal T u v))):Sem Value):=by
 unfold binOp
 split <;> first | rfl | contradiction | (simp [n6] at h;done)
theorem lv {op:BinOp} (hop:op = .eql\/op = .neq) {T:TypeId} {u v:Value} (h:n6 u v=true) {c:Bool} (he:(Op.equal T u v).run P w = .ok c w) :
  (binOp op T u v).run P w = .ok (.bool (if op = .eql then c else !c)) w:=by
 rcases hop with rfl | rfl
 ·rw [AZ h];simp [he]
 ·rw [AY h];simp [he]
def zr:Value->Value->Bool
 | .nilIface,.nilIface=>false
 | .agg _,.agg _=>false
 | _,_=>true
theorem jy {op:BinOp} {T:TypeId} {x y:Operand} {u v:Value} (h:zr u v=true):(eqGuard op T x y u v).run P w = .ok () w:=by
 cases op <;> first | rfl | (cases u <;> cases v <;> first | rfl | (simp [zr] at h;done))
theorem Ee {op:BinOp} (hop:op = .eql\/op = .neq) {T:TypeId} {x y:Operand} {a b:PV} {u v:Value} {c:Bool} (h:xeql P T x y a b=some c) (ha:VR w σ av a u) (hb:VR w σ av b v)
  (hn:n6 u v=true) :
  (eqGuard op T x y u v).run P w = .ok () w/\(binOp op T u v).run P w = .ok (.bool (if op = .eql then c else !c)) w:=by
 have key:∀(xs ys:List PV) (r:Bool),xeq P 20 T xs ys=some c->dS P T=some r->VC w σ av r xs u->VC w σ av r ys v->(Op.equal T u v).run P w = .ok c w:=by
  intro xs ys r h1 h2 h3 h4
  exact C1 20 10000 (by omega) h1 h2 h3 h4
 unfold xeql at h
 split at h
 ·rename_i xs ys
  split at h
  ·simp at h
  ·rename_i hg
   simp at hg
   cases ha with
   | agg cs hl hv=>
   cases hb with
   | agg cs' hl' hv'=>
    exact ⟨run_eqGuard_agg w op T x y _ _ hg.1,lv hop hn (key xs ys true h hg.2 (.inl ⟨rfl,cs,rfl,hl,hv⟩) (.inl ⟨rfl,cs',rfl,hl',hv'⟩))⟩
 ·split at h
  ·rename_i hc
   simp at hc
   cases ha;cases hb
   exact ⟨kS (by simpa using hc.1),lv hop hn (key _ _ false h hc.2 (.inr ⟨rfl,_,rfl,.nili⟩) (.inr ⟨rfl,_,rfl,.nili⟩))⟩
  ·simp at h
 ·simp at h
 ·simp at h
 ·split at h
  ·rename_i hc
   simp at hc
   refine ⟨?_,lv hop hn (key _ _ false h hc.2 (.inr ⟨rfl,_,rfl,ha⟩) (.inr ⟨rfl,_,rfl,hb⟩))⟩
   clear key hn hop h
   cases ha;cases hb
   rename_i o _
   cases o with
   | none=>exact kS (by simpa using hc.1)
   | some a=>exact jy rfl
  ·simp at h
 ·split at h
  ·rename_i hc
   simp at hc
   refine ⟨?_,lv hop hn (key _ _ false h hc.2 (.inr ⟨rfl,_,rfl,ha⟩) (.inr ⟨rfl,_,rfl,hb⟩))⟩
   clear key hn hop h
   cases ha;cases hb
   rename_i o _
   cases o with
   | none=>exact kS (by simpa using hc.1)
   | some a=>exact jy rfl
  ·simp at h
 ·simp at h
 ·simp at h
 ·simp at h
 ·simp at h
 ·split at h
  ·simp at h
  ·rename_i hr
   simp at hr
   refine ⟨jy ?_,lv hop hn (key _ _ false h hr (.inr ⟨rfl,_,rfl,ha⟩) (.inr ⟨rfl,_,rfl,hb⟩))⟩
   clear key hn hop h
   cases ha <;> cases hb <;> first | rfl | (exfalso;simp_all;done)
end
end Go.SH
namespace Go.SH
section
variable {P:Program} {w:World} {σ:Sig} {av:Nat->Prop}
theorem Iq {op:BinOp} {T:TypeId} {x y:Operand} {a b c:PV} {u v:Value} (h:xbin P op T x y a b=some c) (ha:VR w σ av a u) (hb:VR w σ av b v) :
  ∃r,(eqGuard op T x y u v).run P w = .ok () w/\(binOp op T u v).run P w = .ok r w/\VR w σ av c r:=by
 unfold xbin at h
 split at h
 ·cases ha;cases hb
  rename_i k n k' m
  split at h
  ·rename_i hk;subst hk
   split at h
   ·split at h
    ·simp at h
    ·rename_i hm;simp at h;subst h
     exact ⟨_,dk,by simp [binOp,Op.intDiv,hm],.int _ _⟩
   ·split at h
    ·simp at h
    ·rename_i hm;simp at h;subst h
     exact ⟨_,dk,by simp [binOp,Op.intDiv,hm],.int _ _⟩
   ·split at h
    ·simp at h
    ·rename_i hm;simp at h;subst h
     exact ⟨_,dk,by simp [binOp,Op.shift,hm],.int _ _⟩
   ·split at h
    ·simp at h
    ·rename_i hm;simp at h;subst h
     exact ⟨_,dk,by simp [binOp,Op.shift,hm],.int _ _⟩
   ·obtain ⟨r,h1,h2⟩:=yC (P:=P) (w:=w) (σ:=σ) (av:=av) (T:=T) h
    exact ⟨r,dk,h1,h2⟩
  ·split at h
   ·split at h
    ·simp at h
    ·rename_i hm;simp at h;subst h
     exact ⟨_,dk,by simp [binOp,Op.shift,hm],.int _ _⟩
   ·split at h
    ·simp at h
    ·rename_i hm;simp at h;subst h
     exact ⟨_,dk,by simp [binOp,Op.shift,hm],.int _ _⟩
   ·simp at h
 ·cases ha;cases hb
  obtain ⟨r,h1,h2⟩:=yB (P:=P) (w:=w) (σ:=σ) (av:=av) (T:=T) h
  exact ⟨r,oI,h1,h2⟩
 ·rename_i hna hnb
  have hn:∀c,xeql P T x y a b=some c->n6 u v=true:=by
   intro c hc
   have hd:a ≠ .dead:=by rintro rfl;simp [xeql] at hc
   have hd':b ≠ .dead:=by rintro rfl;cases a <;> simp [xeql] at hc
   have hq:∀g cs,a ≠ .xc g cs:=by rintro g cs rfl;cases b <;> simp [xeql] at hc
   have hq':∀g cs,b ≠ .xc g cs:=by rintro g cs rfl;cases a <;> simp [xeql] at hc
   clear h hc
   cases ha <;> cases hb <;> first | rfl | exact Dk _ _ _ | exact Dj _ _ _ | exact (hna _ _ _ _ rfl rfl).elim | exact (hnb _ _ rfl rfl).elim | (exfalso;simp_all;done)
  split at h
  ·simp only [Option.map_eq_some_iff] at h
   obtain ⟨c,h,rfl⟩:=h
   obtain ⟨h1,h2⟩:=Ee (P:=P) (.inl rfl) h ha hb (hn c h)
   exact ⟨_,h1,h2,.bool _⟩
  ·simp only [Option.map_eq_some_iff] at h
   obtain ⟨c,h,rfl⟩:=h
   obtain ⟨h1,h2⟩:=Ee (P:=P) (.inr rfl) h ha hb (hn c h)
   exact ⟨_,h1,h2,.bool _⟩
  ·simp at h
end
section
variable {E:Env} {d:Option Tmp} {ty:TypeId} {pos:String} {after:Array Edge} {g:Option (Nat×Bool)} {ra:Al} {rl:Lb}
theorem gX {op:BinOp} {T yt:TypeId} {x y:Operand} {a b c:PV} (hx:xev E.G ra x=some a) (hy:xev E.G ra y=some b) (h:xbin E.P op T x y a b=some c) :
  AOp E ⟨d,.binOp op T x y yt,ty,pos,after,g⟩ ra rl c []:=by
 refine bA fun A w σ al L a' r h1 h2=>?_
 obtain ⟨v,e1,e2,e3⟩:=Iq h (aQ r h1 hx) (aQ r h1 hy)
 exact ⟨v,by simp [execOp,e1,e2],e3⟩
theorem CW {x:Operand} {c:PV} (hx:xev E.G ra x=some c):AOp E ⟨d,.move x,ty,pos,after,g⟩ ra rl c []:=
 bA fun A w σ al L a' r h1 h2=>⟨_,rfl,aQ r h1 hx⟩
theorem sc {x:Operand} {c:PV} (hx:xev E.G ra x=some c):AOp E ⟨d,.assign x,ty,pos,after,g⟩ ra rl c []:=
 bA fun A w σ al L a' r h1 h2=>⟨_,rfl,aQ r h1 hx⟩
def Bn (c:PV) (a b:Option PV):Option PV:=
 match c with
 | .bool c=>match a,b with
  | some (.bool x),some (.bool y)=>some (.bool (bif c then x else y))
  | a,b=>if c then a else b
 | _=>none
theorem yr {c x y:Operand} {p r:PV} (hc:xev E.G ra c=some p) (h:Bn p (xev E.G ra x) (xev E.G ra y)=some r):AOp E ⟨d,.pick c x y,ty,pos,after,g⟩ ra rl r []:=by
 refine bA fun A w σ al L a' rr h1 h2=>?_
 have hv:=aQ rr h1 hc
 unfold Bn at h
 split at h
 ·rename_i b
  have e:a'.eval c = .bool b:=by generalize a'.eval c=v at hv;cases hv;rfl
  have hr:(execOp a'.eval ⟨d,.pick c x y,ty,pos,after,g⟩).run E.P w = .ok (.value (if b then a'.eval x else a'.eval y)) w:=by
   simp [execOp,e,asBool]
  refine ⟨_,hr,?_⟩
  split at h
  ·rename_i u v hx hy
   simp at h;subst h
   have h3:=aQ rr h1 hx
   have h4:=aQ rr h1 hy
   cases b
   ·exact h4
   ·exact h3
  ·cases b
   ·exact aQ rr h1 h
   ·exact aQ rr h1 h
 ·simp at h
def xun:UnOp->PV->Option PV
 | .not,.bool b=>some (.bool (!b))
 | .neg,.int k n=>some (.int k (k.wrap (0-n)))
 | .xor,.int k n=>some (.int k (aj .xor k (if k.signed then -1 else k.max) n))
 | _,_=>none
theorem CU {op:UnOp} {T:TypeId} {x:Operand} {a c:PV} (hx:xev E.G ra x=some a) (h:xun op a=some c):AOp E ⟨d,.unOp op T x,ty,pos,after,g⟩ ra rl c []:=by
 refine bA fun A w σ al L a' r h1 h2=>?_
 have hv:=aQ r h1 hx
 unfold xun at h
 split at h <;> simp at h <;> subst h
 all_goals
  generalize he:a'.eval x=v at hv
  cases hv
 ·exact ⟨_,by simp [execOp,Op.unary,he],.bool _⟩
 ·exact ⟨_,by simp [execOp,Op.unary,Op.intArith,he],.int _ _⟩
 ·exact ⟨_,by simp [execOp,Op.unary,Op.intBits,aj,he],.int _ _⟩
end
end Go.SH
namespace Go.SH
def PV.one:PV->Bool
 | .agg _ | .tup _ | .dead | .xc _ _=>false
 | _=>true
def cJ:PV->List PV
 | .agg xs=>xs
 | x=>[x]
theorem As {w:World} {σ:Sig} {av:Nat->Prop} {x:PV} {v:Value} (h:VR w σ av x v) (hx:x.one=true):v.oneCell'=true:=by
 cases h <;> first | rfl | (rename_i o _;cases o <;> rfl;done) | (simp [PV.one] at hx;done)
theorem uo {w:World} {σ:Sig} {av:Nat->Prop} {x:PV} {v:Value} (h:VR w σ av x v) (h1:(cJ x).all PV.one=true) :
  v.cells.size=(cJ x).length/\(∀u∈v.cells.toList,u.oneCell'=true)/\∀(i:Nat) (y:PV),(cJ x)[i]?=some y->∃u,v.cells[i]?=some u/\VR w σ av y u:=by
 have scal:∀{x:PV} {v:Value},VR w σ av x v->x.one=true->v.cells=#[v]:=by
  intro x v h hx
  cases h <;> first | rfl | (rename_i o _;cases o <;> rfl;done) | (simp [PV.one] at hx;done)
 by_cases hx:x.one=true
 ·have hp:cJ x=[x]:=by cases x <;> first | rfl | (simp [PV.one] at hx;done)
  rw [hp,scal h hx]
  refine ⟨rfl,by simpa using As h hx,fun i y hy=>?_⟩
  cases i with
  | zero=>simp at hy;subst hy;exact ⟨v,rfl,h⟩
  | succ i=>simp at hy
 ·cases x <;> simp [PV.one] at hx
  ·simp [cJ,PV.one] at h1
  ·simp [cJ,PV.one] at h1
  ·cases h with
   | agg cs hl hv=>
    rename_i cells
    simp only [cJ] at h1 ⊢
    refine ⟨by simp [Value.cells,hl],?_,fun i y hy=>?_⟩
    ·intro u hu
     simp [Value.cells] at hu
     obtain ⟨i,hi,rfl⟩:=List.mem_iff_getElem.1 hu
     have hi':i<cells.length:=by omega
     exact As (hv i cells[i] cs[i] (List.getElem?_eq_getElem hi') (List.getElem?_eq_getElem hi)) (List.all_eq_true.1 h1 _ (List.getElem_mem hi'))
    ·have hi:i<cells.length:=(List.getElem?_eq_some_iff.1 hy).1
     exact ⟨cs[i],by simp [Value.cells],hv i y _ hy (List.getElem?_eq_getElem (by omega))⟩
  ·simp [cJ,PV.one] at h1
theorem j4 {P:Program} {β o:Nat} {T:TypeId} {fr:Nat×Nat}:∀(vs:List Value) (i:Nat) (w:World) (c:Array Value),w.heap[β]?=some (.cells c T fr)->o+i+vs.length<=c.size ->
  (∀j,o+i<=j->j<c.size->¬(fr.1<=j/\j<fr.2))->(∀v∈vs,v.oneCell'=true) ->
  ∃w' c',(storeCells ⟨β,o,none⟩ vs i).run P w = .ok () w'/\w'.heap.size=w.heap.size/\(∀k,k≠β->w'.heap[k]?=w.heap[k]?)/\w'.heap[β]?=some (.cells c' T fr)/\c'.size=c.size /\
   (∀j,c'[j]?=if o+i<=j/\j<o+i+vs.length then vs[j-(o+i)]? else c[j]?)/\w'.os=w.os/\w'.output=w.output/\w'.tape=w.tape
 | [],i,w,c,hb,_,_,_=>⟨w,c,rfl,rfl,fun _ _=>rfl,hb,rfl,fun j=>by rw [if_neg (by simp <;> omega)],rfl,rfl,rfl⟩
 | v::r,i,w,c,hb,hl,hf,h1=>by
  have hadd:(⟨β,o,none⟩:Addr).add i=⟨β,o+i,none⟩:=by unfold Addr.add;split <;> simp_all
  simp only [List.length_cons] at hl
  have hi:o+i<c.size:=by omega
  have hcell:w.cell? ⟨β,o+i,none⟩=some c[o+i]:=by simp [World.cell?,hb,hi]
  have hfro:w.frozen? ⟨β,o+i,none⟩=false:=by
   have:=hf (o+i) (by omega) hi
   simp only [World.frozen?,hb]
   by_cases h1:fr.1<=o+i <;> by_cases h2:o+i<fr.2 <;> simp_all
  have hst:(store ((⟨β,o,none⟩:Addr).add i) v).run P w = .ok () (w.setCell ⟨β,o+i,none⟩ v):=by
   rw [hadd,run_store P w _ v _ (h1 v (by simp)),hcell]
   simp [hfro]
  have hb':(w.setCell ⟨β,o+i,none⟩ v).heap[β]?=some (.cells (c.setIfInBounds (o+i) v) T fr):=by
   simp [World.setCell,Array.getElem?_modify,hb]
  obtain ⟨w',c',e1,e2,e3,e4,e5,e6,e7⟩:=j4 (P:=P) (β:=β) (o:=o) (T:=T) (fr:=fr) r (i+1) (w.setCell ⟨β,o+i,none⟩ v) (c.setIfInBounds (o+i) v) hb' (by simp;omega) (by intro j hj hj';exact hf j (by omega) (by simpa using hj')) (fun x hx=>h1 x (by simp [hx]))
  refine ⟨w',c',?_,by rw [e2];simp,fun k hk=>?_,e4,by rw [e5];simp,fun j=>?_,e7⟩
  ·simp only [storeCells,Sem.run_bind,hst,Result.andThen_ok];exact e1
  ·rw [e3 k hk];simp [World.setCell,Array.getElem?_modify,Ne.symm hk]
  ·rw [e6]
   by_cases hj:o+(i+1)<=j/\j<o+(i+1)+r.length
   ·rw [if_pos hj,if_pos (by simp;omega)]
    have:j-(o+i)=(j-(o+(i+1)))+1:=by omega
    rw [this];simp
   ·rw [if_neg hj]
    by_cases hj2:j=o+i
    ·subst hj2
     rw [if_pos (by simp)]
     simp [hi]
    ·rw [if_neg (by simp;omega)]
     simp [Array.getElem?_setIfInBounds,Ne.symm hj2]
def dw (cells:List PV) (off:Nat) (xs:List PV):List PV:=cells.take off++xs++cells.drop (off+xs.length)
theorem kV {cells xs:List PV} {off:Nat} (h:off+xs.length<=cells.length) (j:Nat) :
  (dw cells off xs)[j]?=if off<=j/\j<off+xs.length then xs[j-off]? else cells[j]?:=by
 unfold dw
 have ht:(cells.take off).length=off:=by simp;omega
 by_cases h1:j<off
 ·rw [if_neg (by omega),List.append_assoc,List.getElem?_append_left (by omega),List.getElem?_take,if_pos h1]
 ·by_cases h2:j<off+xs.length
  ·rw [if_pos ⟨by omega,h2⟩,List.getElem?_append_left (by simp;omega),List.getElem?_append_right (by omega),ht]
  ·rw [if_neg (by omega),List.getElem?_append_right (by simp;omega)]
   simp only [List.length_append,ht,List.getElem?_drop]
   congr 1;omega
theorem j6 {cells xs:List PV} {off:Nat} (h:off+xs.length<=cells.length):(dw cells off xs).length=cells.length:=by
 simp [dw];omega
section
variable {E:Env} {d:Option Tmp} {ty:TypeId} {pos:String} {after:Array Edge} {g:Option (Nat×Bool)} {ra:Al} {rl:Lb}
theorem uZ {T:TypeId} {p v:Operand} {l off:Nat} {cells:List PV} {x:PV} {i:TypeInfo} (hp:xev E.G ra p=some (.ptr l off)) (hv:xev E.G ra v=some x) (hl:lget rl l=some (some cells))
  (hi:E.P.info? T=some i) (hsz:(cJ x).length=i.size) (h1:(cJ x).all PV.one=true) (hfit:off+i.size<=cells.length) (hne:0<i.size) :
  AOp E ⟨none,.store T p v,ty,pos,after,g⟩ ra rl .dead [(l,some (dw cells off (cJ x)))]:=by
 intro A w σ al L a r e1 e2 _
 have hpv:=aQ r e1 hp
 have hxv:=aQ r e1 hv
 have hL:=e2 _ _ hl
 have hcne:cells≠[]:=by rintro rfl;simp at hfit;omega
 rcases r.blocks.all l cells hL with ⟨_,h0⟩ | ⟨β,add,size,c,TT,fr,hB⟩
 ·exact absurd h0 hcne
 ·generalize hpe:a.eval p=pv at hpv
  cases hpv with
  | ptr hs=>
   rw [hB.sig] at hs;simp at hs;obtain ⟨rfl,rfl,rfl⟩:=hs
   obtain ⟨q1,q2,q3⟩:=uo hxv h1
   have hsize:(sizeOf T).run E.P w = .ok i.size w:=bm hi w
   have hfits:=hB.fits
   have hcs:=hB.hsz
   obtain ⟨w',c',s1,s2,s3,s4,s5,s6,s7⟩:=j4 (P:=E.P) (o:=add+off) (a.eval v).cells.toList 0 w c hB.heap (by simp [q1];omega) (by intro j hj hj';exact hB.free j (by omega) (by omega)) q2
   have hrun:(execOp a.eval ⟨none,.store T p v,ty,pos,after,g⟩).run E.P w = .ok .skip w':=by
    simp only [execOp,Instr.storeAt,hpe,Instr.sureAddr,storeVar]
    simp [hsize,q1,hsz,s1]
   unfold Oper.wp
   rw [hrun]
   have hlen:((a.eval v).cells.toList).length=(cJ x).length:=by simpa using q1
   obtain ⟨b1,b2⟩:=r.blocks.write hL (cells':=dw cells off (cJ x)) hB s2 s3 s4 (by omega) (by rw [j6 (by omega)];exact hfits) (by
    intro j y hy
    rw [kV (by omega)] at hy
    rw [s6]
    by_cases hj:off<=j/\j<off+(cJ x).length
    ·rw [if_pos hj] at hy
     rw [if_pos (by omega)]
     obtain ⟨u,hu,huv⟩:=q3 _ y hy
     refine ⟨u,?_,huv⟩
     have:add+j-(add+off+0)=j-off:=by omega
     rw [this];simpa using hu
    ·rw [if_neg hj] at hy
     rw [if_neg (by omega)]
     exact hB.vals j y hy)
   exact ⟨σ,undef,rfl,.dead,b1,b2⟩
theorem wE {o:Oper} {lab:Nat} {cells:List PV} {x:PV}
  (h:∀A w σ al L a,Rel E A w σ al L a->(∀t y,lget ra t=some y->lget al t=some y)->(∀l y,lget rl l=some y->lget L l=some y) ->
   ∃(cs:Array Value) (T:TypeId) (v:Value),(execOp a.eval o).run E.P w = .ok (.value v) (w.alloc (.cells cs T))/\cs.size=cells.length /\
     (∀(i:Nat) (y:PV),cells[i]?=some y->∃u,cs[i]?=some u/\VR w σ (avo A σ L) y u) /\
     ∀(w':World) (σ':Sig) (av':Nat->Prop),σ' lab=some (w.heap.size,0,cs.size)->VR w' σ' av' x v) (hrl:lget rl lab=none) :
  AOp E o ra rl x [(lab,some cells)]:=by
 intro A w σ al L a r e1 e2 e3
 obtain ⟨cs,T,v,h1,h2,h3,h4⟩:=h A w σ al L a r e1 e2
 have hf:lget L lab=none:=by
  rcases e3 (lab,some cells) (by simp) with h | h
  ·exact absurd hrl h
  ·exact h
 obtain ⟨b1,b2⟩:=r.blocks.alloc hf cells cs T (w':=w.alloc (.cells cs T)) (fr:=(0,0)) (by simp) (fun β hb=>B6 w _ β hb) (heap_alloc_new w _) (.inl rfl) (by omega) h3
 unfold Oper.wp
 rw [h1]
 exact ⟨_,v,rfl,h4 _ _ _ (dJ _ _ _),b1,b2⟩
theorem Fi {T:TypeId} {x:Operand} {v:PV} (lab:Nat) (hx:xev E.G ra x=some v) (h1:(cJ v).all PV.one=true) (hrl:lget rl lab=none) :
  AOp E ⟨d,.box T x,ty,pos,after,g⟩ ra rl (.ptr lab 0) [(lab,some (cJ v))]:=by
 refine wE (fun A w σ al L a r e1 e2=>?_) hrl
 obtain ⟨q1,q2,q3⟩:=uo (aQ r e1 hx) h1
 exact ⟨(a.eval x).cells,T,.pointer (some ⟨w.heap.size,0,none⟩),by simp [execOp,Instr.box,newVar,newRow],q1,q3,fun w' σ' av' hs=>.ptr (off:=0) hs⟩
def g7 (P:Program) (T:TypeId):Option (List PV):=
 match P.info? T with
 | some i=>match i.zero with
  | some z=>cpvs z.cells.toList
  | none=>none
 | none=>none
theorem Fj {P:Program} {T:TypeId} {cells:List PV} (h:g7 P T=some cells):∃z,(∀w,(zeroValue T).run P w = .ok z w)/\cpvs z.cells.toList=some cells:=by
 unfold g7 at h
 split at h
 ·rename_i i hi
  split at h
  ·rename_i z hz
   exact ⟨z,fun w=>by simp [zeroValue,typeInfo,hi,hz],h⟩
  ·simp at h
 ·simp at h
theorem z8 {T:TypeId} {cells:List PV} (lab:Nat) (hz:g7 E.P T=some cells) (hrl:lget rl lab=none) :
  AOp E ⟨d,.alloc T,ty,pos,after,g⟩ ra rl (.ptr lab 0) [(lab,some cells)]:=by
 refine wE (fun A w σ al L a r e1 e2=>?_) hrl
 obtain ⟨z,h1,h2⟩:=Fj hz
 obtain ⟨h3,h4⟩:=tL (w:=w) (σ:=σ) (av:=avo A σ L) h2
 refine ⟨z.cells,T,.pointer (some ⟨w.heap.size,0,none⟩),by simp [execOp,Instr.alloc,newVar,newRow,h1],by simpa using h3.symm,fun i y hy=>?_,fun w' σ' av' hs=>.ptr (off:=0) hs⟩
 have hi:i<z.cells.size:=by
  have:=(List.getElem?_eq_some_iff.1 hy).1;simp at h3;omega
 exact ⟨z.cells[i],by simp [hi],h4 i y _ hy (by simp [hi])⟩
end
end Go.SH
namespace Go.SH
theorem zu (off:Nat):∀(vs:List Value) (k:Nat) (cs:Array Value),off+k+vs.length<=cs.size ->
  ((vs.zipIdx k).foldl (fun cs (p:Value×Nat)=>cs.setIfInBounds (off+p.2) p.1) cs).size=cs.size /\
  ∀j,((vs.zipIdx k).foldl (fun cs (p:Value×Nat)=>cs.setIfInBounds (off+p.2) p.1) cs)[j]?=if off+k<=j/\j<off+k+vs.length then vs[j-(off+k)]? else cs[j]?
 | [],k,cs,_=>⟨rfl,fun j=>by simp;intro h1 h2;omega⟩
 | v::r,k,cs,h=>by
  simp only [List.length_cons] at h
  obtain ⟨h1,h2⟩:=zu off r (k+1) (cs.setIfInBounds (off+k) v) (by simp;omega)
  simp only [List.zipIdx_cons,List.foldl_cons]
  refine ⟨by rw [h1];simp,fun j=>?_⟩
  rw [h2]
  by_cases hj:off+(k+1)<=j/\j<off+(k+1)+r.length
  ·rw [if_pos hj,if_pos (by simp;omega)]
   have:j-(off+k)=(j-(off+(k+1)))+1:=by omega
   rw [this];simp
  ·rw [if_neg hj]
   by_cases hj2:j=off+k
   ·subst hj2
    have hi:off+k<cs.size:=by omega
    rw [if_pos (by simp)]
    simp [hi]
   ·rw [if_neg (by simp;omega)]
    simp [Ne.symm hj2]
def oG (place:Nat->Option (Nat×Nat)) (cells:List PV):List (Nat×PV)->Option (List PV)
 | []=>some cells
 | (i,v)::rest=>match place i with
  | none=>none
  | some (off,size)=>if (cJ v).length=size/\off+size<=cells.length/\(cJ v).all PV.one=true then oG place (dw cells off (cJ v)) rest else none
theorem sd {w:World} {σ:Sig} {av:Nat->Prop} {place:Nat->Option (Nat×Nat)}:∀(ps:List (Nat×PV)) (vs:List (Nat×Value)) (cells:List PV) (cs:Array Value) (r:List PV),ps.length=vs.length ->
  (∀(j:Nat) (p:Nat×PV) (v:Nat×Value),ps[j]?=some p->vs[j]?=some v->p.1=v.1/\VR w σ av p.2 v.2)->cells.length=cs.size ->
  (∀(i:Nat) (x:PV),cells[i]?=some x->∃v,cs[i]?=some v/\VR w σ av x v)->oG place cells ps=some r ->
  ∃rs,Instr.fill place cs vs=some rs/\rs.size=r.length/\∀(i:Nat) (x:PV),r[i]?=some x->∃v,rs[i]?=some v/\VR w σ av x v
 | [],[],cells,cs,r,_,_,hl,hv,h=>by
  simp [oG] at h;subst h
  exact ⟨cs,rfl,hl.symm,hv⟩
 | (i,x)::ps,(i',v)::vs,cells,cs,r,hn,hp,hl,hv,h=>by
  obtain ⟨he,hx⟩:=hp 0 _ _ rfl rfl
  simp at he hx;subst he
  simp only [oG] at h
  simp only [Instr.fill]
  split at h
  ·simp at h
  ·rename_i off size hpl
   split at h
   ·rename_i hc
    obtain ⟨c1,c2,c3⟩:=hc
    obtain ⟨q1,q2,q3⟩:=uo hx c3
    have hsz:v.cells.size=size:=by omega
    obtain ⟨f1,f2⟩:=zu off v.cells.toList 0 cs (by simp;omega)
    simp only [Nat.add_zero,Array.length_toList] at f1 f2
    have hz:v.cells.zipIdx.foldl (fun cs (p:Value×Nat)=>cs.setIfInBounds (off+p.2) p.1) cs=(v.cells.toList.zipIdx 0).foldl (fun cs (p:Value×Nat)=>cs.setIfInBounds (off+p.2) p.1) cs:=by
     rw [<-Array.foldl_toList];simp
    rw [hpl]
    simp only
    rw [if_neg (by simp;omega),hz]
    refine sd ps vs _ _ r (by simpa using hn) (fun j p v' h1 h2=>hp (j+1) p v' (by simpa using h1) (by simpa using h2)) ?_ ?_ h
    ·rw [f1,j6 (by omega)];exact hl
    ·intro j y hy
     rw [kV (by omega)] at hy
     rw [f2]
     by_cases hj:off<=j/\j<off+(cJ x).length
     ·rw [if_pos hj] at hy
      rw [if_pos (by omega)]
      simpa using q3 _ y hy
     ·rw [if_neg hj] at hy
      rw [if_neg (by omega)]
      exact hv j y hy
   ·simp at h
def mo (G:List (Nat×List PV)) (al:Al):List (Nat×Operand)->Option (List (Nat×PV))
 | []=>some []
 | (i,o)::r=>match xev G al o,mo G al r with
  | some x,some xs=>some ((i,x)::xs)
  | _,_=>none
theorem uc {E:Env} {A:Nat->Prop} {w:World} {σ:Sig} {al:Al} {L:Lb} {a:Act} (r:Rel E A w σ al L a) {ra:Al} (h1:∀t y,lget ra t=some y->lget al t=some y) :
  ∀(os:List (Nat×Operand)) (ps:List (Nat×PV)),mo E.G ra os=some ps->ps.length=(os.map fun (i,x)=>(i,a.eval x)).length /\
    ∀(j:Nat) (p:Nat×PV) (v:Nat×Value),ps[j]?=some p->(os.map fun (i,x)=>(i,a.eval x))[j]?=some v->p.1=v.1/\VR w σ (avo A σ L) p.2 v.2
 | [],ps,h=>by simp [mo] at h;subst h;simp
 | (i,o)::os,ps,h=>by
  simp only [mo] at h
  split at h
  ·rename_i x xs h2 h3
   simp at h;subst h
   obtain ⟨e1,e2⟩:=uc r h1 os xs h3
   refine ⟨by simp [e1],fun j p v hp hv=>?_⟩
   cases j with
   | zero=>simp at hp hv;subst hp;subst hv;exact ⟨rfl,aQ r h1 h2⟩
   | succ j=>exact e2 j p v (by simpa using hp) (by simpa using hv)
  ·simp at h
def p6 (P:Program):List Field->Option (List (Nat×Nat))
 | []=>some []
 | f::fs=>match P.info? f.type,p6 P fs with
  | some i,some r=>some ((f.offset,i.size)::r)
  | _,_=>none
theorem wG (P:Program):∀(fs:List Field),fs.mapM (fun f=>(P.info? f.type).map fun i=>(f.offset,i.size))=p6 P fs
 | []=>rfl
 | f::fs=>by
  simp only [List.mapM_cons,p6]
  rw [wG P fs]
  cases P.info? f.type <;> cases p6 P fs <;> rfl
def wH (P:Program) (T:TypeId) (ps:List (Nat×PV)):Option (List PV):=
 match g7 P T,P.underlying T with
 | some z,some (.struct fields)=>match p6 P fields.toList with
  | some places=>oG (fun (i:Nat)=>places[i]?) z ps
  | none=>none
 | some z,some (.array _ e)=>match P.info? e with
  | some ie=>oG (fun i=>some (i*ie.size,ie.size)) z ps
  | none=>none
 | _,_=>none
section
variable {E:Env} {d:Option Tmp} {ty:TypeId} {pos:String} {after:Array Edge} {g:Option (Nat×Bool)} {ra:Al} {rl:Lb}
theorem zc {P:Program} {T:TypeId} {z:List PV} (h:g7 P T=some z):∃it v,P.info? T=some it/\it.zero=some v/\cpvs v.cells.toList=some z:=by
 unfold g7 at h
 split at h
 ·rename_i i hi
  split at h
  ·rename_i v hv;exact ⟨i,v,hi,hv,h⟩
  ·simp at h
 ·simp at h
theorem nG {w:World} {σ:Sig} {av:Nat->Prop} {vs:Array Value} {z:List PV} (h:cpvs vs.toList=some z) :
  z.length=vs.size/\∀(i:Nat) (x:PV),z[i]?=some x->∃v,vs[i]?=some v/\VR w σ av x v:=by
 obtain ⟨h1,h2⟩:=tL (w:=w) (σ:=σ) (av:=av) h
 refine ⟨by simpa using h1,fun i x hx=>?_⟩
 have hi:i<vs.size:=by have:=(List.getElem?_eq_some_iff.1 hx).1;simp at h1;omega
 exact ⟨vs[i],by simp [hi],h2 i x _ hx (by simp [hi])⟩
theorem z7 {T:TypeId} {parts:Array (Nat×Operand)} {ps:List (Nat×PV)} {cells:List PV} (hp:mo E.G ra parts.toList=some ps) (h:wH E.P T ps=some cells) :
  AOp E ⟨d,.build T parts,ty,pos,after,g⟩ ra rl (.agg cells) []:=by
 refine bA fun A w σ al L a r h1 h2=>?_
 obtain ⟨e1,e2⟩:=uc r h1 _ _ hp
 have hpt:(parts.map fun (i,x)=>(i,a.eval x)).toList=parts.toList.map fun (i,x)=>(i,a.eval x):=by simp
 have fin:∀(cs:Array Value),E.P.built T (parts.map fun (i,x)=>(i,a.eval x)).toList=some cs->cs.size=cells.length->(∀(i:Nat) (x:PV),cells[i]?=some x->∃v,cs[i]?=some v/\VR w σ (avo A σ L) x v) ->
   ∃c,(execOp a.eval ⟨d,.build T parts,ty,pos,after,g⟩).run E.P w = .ok (.value c) w/\VR w σ (avo A σ L) (.agg cells) c:=by
  intro cs hb hs hv
  refine ⟨.agg cs,by simp [execOp,run_build w T _ cs hb],?_⟩
  refine VR.agg cs.toList (by simp [hs]) fun i x v hx hv'=>?_
  obtain ⟨u,hu,hr⟩:=hv i x hx
  simp [hu] at hv';subst hv';exact hr
 unfold wH at h
 split at h
 ·rename_i z fields hz hu
  obtain ⟨it,zv,z1,z2,z3⟩:=zc hz
  obtain ⟨l1,l2⟩:=nG (w:=w) (σ:=σ) (av:=avo A σ L) z3
  split at h
  ·rename_i places hpl
   obtain ⟨rs,f1,f2,f3⟩:=sd (place:=fun (i:Nat)=>places[i]?) ps (parts.toList.map fun (i,x)=>(i,a.eval x)) z zv.cells cells e1 e2 l1 l2 h
   refine fin rs ?_ f2 f3
   unfold Program.built
   simp only [z1,hu,z2,wG,hpl,hpt]
   have:(fun (i:Nat)=>places.toArray[i]?)=fun (i:Nat)=>places[i]?:=by funext i;simp
   rw [this];exact f1
  ·simp at h
 ·rename_i z n e hz hu
  obtain ⟨it,zv,z1,z2,z3⟩:=zc hz
  obtain ⟨l1,l2⟩:=nG (w:=w) (σ:=σ) (av:=avo A σ L) z3
  split at h
  ·rename_i ie hie
   obtain ⟨rs,f1,f2,f3⟩:=sd (place:=fun i=>some (i*ie.size,ie.size)) ps (parts.toList.map fun (i,x)=>(i,a.eval x)) z zv.cells cells e1 e2 l1 l2 h
   refine fin rs ?_ f2 f3
   unfold Program.built
   simp only [z1,hu,z2,hie,hpt]
   exact f1
  ·simp at h
 ·simp at h
def zrow (z:List PV) (n:Nat):List PV:=(List.range n).map fun i=>z.getD (i % z.length) .dead
theorem yV {w:World} {σ:Sig} {av:Nat->Prop} {vs:Array Value} {z:List PV} (h:cpvs vs.toList=some z) (n:Nat) (hz:n=0\/0<z.length) :
  (zrow z n).length=((Array.range n).map (vs[· % vs.size]!)).size/\∀(i:Nat) (x:PV),(zrow z n)[i]?=some x->∃v,((Array.range n).map (vs[· % vs.size]!))[i]?=some v/\VR w σ av x v:=by
 obtain ⟨h1,h2⟩:=nG (w:=w) (σ:=σ) (av:=av) h
 refine ⟨by simp [zrow],fun i x hx=>?_⟩
 have hi:i<n:=by have:=(List.getElem?_eq_some_iff.1 hx).1;simpa [zrow] using this
 have hp:0<z.length:=by omega
 have hm:i % z.length<z.length:=Nat.mod_lt _ hp
 simp [zrow,List.getElem?_range hi] at hx
 obtain ⟨v,hv,hr⟩:=h2 (i % z.length) x (by rw [<-hx];simp [List.getElem?_eq_getElem hm])
 refine ⟨v,?_,hr⟩
 rw [h1] at hv
 have hm':i % vs.size<vs.size:=by rw [<-h1];exact hm
 simp [hi]
 rw [Array.getElem?_eq_getElem hm'] at hv
 simp at hv
 rw [getElem!_pos vs _ hm'];exact hv
def kj (P:Program) (T:TypeId) (len:Nat) (ps:List (Nat×PV)):Option (List PV×Nat):=
 match P.underlying T with
 | some (.slice e)=>match P.info? e,g7 P e with
  | some ie,some z=>if len*ie.size<=2^24/\0<ie.size/\0<z.length then (oG (fun i=>some (i*ie.size,ie.size)) (zrow z (len*ie.size)) ps).map fun c=>(c,ie.size) else none
  | _,_=>none
 | _=>none
theorem p5 {T:TypeId} {len:Nat} {parts:Array (Nat×Operand)} {ps:List (Nat×PV)} {cells:List PV} {sz:Nat} (lab:Nat) (hp:mo E.G ra parts.toList=some ps)
  (h:kj E.P T len ps=some (cells,sz)) (hrl:lget rl lab=none):AOp E ⟨d,.buildSlice T len parts,ty,pos,after,g⟩ ra rl (.rw lab 0 len sz (some len)) [(lab,some cells)]:=by
 refine wE (fun A w σ al L a r h1 h2=>?_) hrl
 obtain ⟨e1,e2⟩:=uc r h1 _ _ hp
 unfold kj at h
 split at h
 ·rename_i e hu
  split at h
  ·rename_i ie z hie hz
   split at h
   ·rename_i hc
    simp only [Option.map_eq_some_iff,Prod.mk.injEq] at h
    obtain ⟨c,h,rfl,rfl⟩:=h
    obtain ⟨it,zv,z1,z2,z3⟩:=zc hz
    rw [hie] at z1;simp at z1;subst z1
    have key:∀(cs:Array Value),Instr.fill (fun i=>some (i*ie.size,ie.size)) ((Array.range (len*ie.size)).map (zv.cells[· % zv.cells.size]!)) (parts.toList.map fun (i,x)=>(i,a.eval x))=some cs ->
      (execOp a.eval ⟨d,.buildSlice T len parts,ty,pos,after,g⟩).run E.P w = .ok (.value (.slice (some ⟨w.heap.size,0,none⟩) len len)) (w.alloc (.cells cs e)):=by
     intro cs hf
     by_cases h0:len*ie.size=0
     ·have hlen:len=0:=by
       rcases Nat.mul_eq_zero.1 h0 with h | h
       ·exact h
       ·omega
      subst hlen
      have hr0:Array.range 0=#[]:=rfl
      simp [hr0] at hf
      simp [execOp,Instr.buildSlice,run_underlying hu,sizeOf,typeInfo,hie,newRow,hr0,hf]
     ·have:=run_buildSlice w T e len (parts.map fun (i,x)=>(i,a.eval x)) cs ie zv hu hie z2 (by omega) h0 (by simpa using hf)
      simp [execOp,this]
    obtain ⟨l1,l2⟩:=yV (w:=w) (σ:=σ) (av:=avo A σ L) z3 (len*ie.size) (.inr hc.2.2)
    obtain ⟨rs,f1,f2,f3⟩:=sd (place:=fun i=>some (i*ie.size,ie.size)) ps (parts.toList.map fun (i,x)=>(i,a.eval x)) _ _ c e1 e2 l1 l2 h
    refine ⟨rs,e,_,key rs f1,f2,f3,fun w' σ' av' hs=>?_⟩
    have hcl:rs.size=len*ie.size:=by
     have:=l1;simp [zrow] at this
     rw [f2]
     have aux:∀(ps:List (Nat×PV)) (cells r:List PV),oG (fun i=>some (i*ie.size,ie.size)) cells ps=some r->r.length=cells.length:=by
      intro ps
      induction ps with
      | nil=>intro cells r h;simp [oG] at h;rw [h]
      | cons p q ih=>
       intro cells r h
       simp only [oG] at h
       split at h
       ·rename_i hc;rw [ih _ _ h,j6 (by omega)]
       ·simp at h
     rw [aux _ _ _ h];simp [zrow]
    exact .rw (off:=0) hs (Nat.le_refl _) (by simp) (by simp [hcl])
   ·simp at h
  ·simp at h
 ·simp at h
end
end Go.SH
namespace Go.SH
def xevs (G:List (Nat×List PV)) (al:Al):List Operand->Option (List PV)
 | []=>some []
 | o::r=>match xev G al o,xevs G al r with
  | some x,some xs=>some (x::xs)
  | _,_=>none
theorem p7 {E:Env} {A:Nat->Prop} {w:World} {σ:Sig} {al:Al} {L:Lb} {a:Act} (r:Rel E A w σ al L a) {ra:Al} (h1:∀t y,lget ra t=some y->lget al t=some y) :
  ∀(os:List Operand) (xs:List PV),xevs E.G ra os=some xs->xs.length=(os.map a.eval).length /\
    ∀(j:Nat) (x:PV) (v:Value),xs[j]?=some x->(os.map a.eval)[j]?=some v->VR w σ (avo A σ L) x v
 | [],xs,h=>by simp [xevs] at h;subst h;simp
 | o::os,xs,h=>by
  simp only [xevs] at h
  split at h
  ·rename_i x ys h2 h3
   simp at h;subst h
   obtain ⟨e1,e2⟩:=p7 r h1 os ys h3
   refine ⟨by simp [e1],fun j p v hp hv=>?_⟩
   cases j with
   | zero=>simp at hp hv;subst hp;subst hv;exact aQ r h1 h2
   | succ j=>exact e2 j p v (by simpa using hp) (by simpa using hv)
  ·simp at h
section
variable {E:Env} {d:Option Tmp} {ty:TypeId} {pos:String} {after:Array Edge} {g:Option (Nat×Bool)} {ra:Al} {rl:Lb}
theorem fT (β o k:Nat):(⟨β,o,none⟩:Addr).add k=⟨β,o+k,none⟩:=by unfold Addr.add;split <;> simp_all
def xoff (P:Program) (S:TypeId) (f:Nat):Option (Nat×TypeId×Nat):=
 match P.underlying S with
 | some (.struct fields)=>match fields[f]? with
  | some fl=>match P.info? fl.type with
   | some i=>if i.size=0 then none else some (fl.offset,fl.type,i.size)
   | none=>none
  | none=>none
 | _=>none
def bX (o:Nat):PV->Option PV
 | .ptr l off=>some (.ptr l (off+o))
 | .rop cells off=>some (.rop cells (off+o))
 | _=>none
theorem ke {S:TypeId} {x:Operand} {f o:Nat} {T:TypeId} {sz:Nat} {p q:PV} (hx:xev E.G ra x=some p) (ho:xoff E.P S f=some (o,T,sz)) (hq:bX o p=some q) :
  AOp E ⟨d,.fieldAddr S x f,ty,pos,after,g⟩ ra rl q []:=by
 refine bA fun A w σ al L a r h1 h2=>?_
 have hv:=aQ r h1 hx
 unfold xoff at ho
 split at ho
 ·rename_i fields hu
  split at ho
  ·rename_i fl hf
   split at ho
   ·rename_i i hi
    split at ho
    ·simp at ho
    ·rename_i hz
     simp at ho;obtain ⟨rfl,rfl,rfl⟩:=ho
     unfold bX at hq
     split at hq <;> simp at hq <;> subst hq
     all_goals
      generalize he:a.eval x=v at hv
      cases hv
     ·rename_i l off β add size hs
      refine ⟨.pointer (some ⟨β,add+(off+fl.offset),none⟩),?_,.ptr hs⟩
      simp [execOp,Instr.fieldAt,run_underlying hu,hf,he,Instr.sureAddr,fieldPlace,bm hi,hz,fT,Nat.add_assoc]
     ·rename_i cells off β add cs him hl hvv
      refine ⟨.pointer (some ⟨β,add+(off+fl.offset),none⟩),?_,.rop cs him hl hvv⟩
      simp [execOp,Instr.fieldAt,run_underlying hu,hf,he,Instr.sureAddr,fieldPlace,bm hi,hz,fT,Nat.add_assoc]
   ·simp at ho
  ·simp at ho
 ·simp at ho
def oE (P:Program) (T:TypeId) (cells:List PV) (o:Nat):Option PV:=
 match P.info? T,dS P T with
 | some i,some true=>if o+i.size<=cells.length then some (.agg ((cells.drop o).take i.size)) else none
 | some _,some false=>cells[o]?
 | _,_=>none
theorem Bo {P:Program} {w:World} {σ:Sig} {av:Nat->Prop} {T:TypeId} {cells:List PV} {o:Nat} {x:PV} (h:oE P T cells o=some x) {cs:List Value} (hl:cells.length=cs.length)
  (hv:∀(i:Nat) (x:PV) (u:Value),cells[i]?=some x->cs[i]?=some u->VR w σ av x u):∃v,(part T cs.toArray o).run P w = .ok v w/\VR w σ av x v:=by
 unfold oE at h
 split at h
 ·rename_i i hi hr
  split at h
  ·rename_i hle
   simp at h;subst h
   obtain ⟨v,h1,h2⟩:=sJ (P:=P) hi hr hl hv o (by simp)
   rcases h2 with ⟨_,cs',rfl,h3,h4⟩ | ⟨h0,_⟩
   ·exact ⟨_,h1,.agg cs' h3 h4⟩
   ·simp at h0
  ·simp at h
 ·rename_i i hi hr
  have hlt:o<cs.length:=by rw [<-hl];exact (List.getElem?_eq_some_iff.1 h).1
  exact ⟨cs[o],by simp [part,nc hr,hlt],hv o x _ h (List.getElem?_eq_getElem hlt)⟩
 ·simp at h
theorem z6 {S:TypeId} {x:Operand} {f o:Nat} {T:TypeId} {sz:Nat} {cells:List PV} {q:PV} (hx:xev E.G ra x=some (.agg cells)) (ho:xoff E.P S f=some (o,T,sz)) (hq:oE E.P T cells o=some q) :
  AOp E ⟨d,.field S x f,ty,pos,after,g⟩ ra rl q []:=by
 refine bA fun A w σ al L a r h1 h2=>?_
 have hv:=aQ r h1 hx
 unfold xoff at ho
 split at ho
 ·rename_i fields hu
  split at ho
  ·rename_i fl hf
   split at ho
   ·rename_i i hi
    split at ho
    ·simp at ho
    ·rename_i hz
     simp at ho;obtain ⟨rfl,rfl,rfl⟩:=ho
     generalize he:a.eval x=v at hv
     cases hv with
     | agg cs hl hvv=>
     obtain ⟨u,h3,h4⟩:=Bo hq hl hvv
     exact ⟨u,by simp [execOp,Instr.field,run_underlying hu,hf,he,asAgg,h3],h4⟩
   ·simp at ho
  ·simp at ho
 ·simp at ho
theorem vK {x:Operand} {i:Nat} {vs:List PV} {q:PV} (hx:xev E.G ra x=some (.tup vs)) (hq:vs[i]?=some q):AOp E ⟨d,.extract x i,ty,pos,after,g⟩ ra rl q []:=by
 refine bA fun A w σ al L a r h1 h2=>?_
 have hv:=aQ r h1 hx
 generalize he:a.eval x=v at hv
 cases hv with
 | tup cs hl hvv=>
  have hlt:i<cs.length:=by rw [<-hl];exact (List.getElem?_eq_some_iff.1 hq).1
  exact ⟨cs[i],by simp [execOp,Instr.extract,he,hlt],hvv i q _ hq (List.getElem?_eq_getElem hlt)⟩
theorem tY {f:FuncId} {caps:Array Operand} {xs:List PV} (hx:xevs E.G ra caps.toList=some xs):AOp E ⟨d,.makeFunc (.func f) #[] caps,ty,pos,after,g⟩ ra rl (.fn f xs) []:=by
 refine bA fun A w σ al L a r h1 h2=>?_
 obtain ⟨e1,e2⟩:=p7 r h1 _ _ hx
 refine ⟨.func (.func f) #[] (caps.map a.eval),by simp [execOp,Instr.makeFunc],?_⟩
 have e:(caps.toList.map a.eval).toArray=caps.map a.eval:=by apply Array.ext';simp
 exact e▸VR.fn f (caps.toList.map a.eval) e1 e2
theorem mn {T:TypeId} {x:Operand} {p:PV} (hx:xev E.G ra x=some p) (hT:(match E.P.underlying T with | some (.interface _)=>false | some _=>true | none=>false)=true) :
  AOp E ⟨d,.makeInterface T x,ty,pos,after,g⟩ ra rl (.iface T p) []:=by
 refine bA fun A w σ al L a r h1 h2=>⟨.iface T (a.eval x),?_,.iface T _ (aQ r h1 hx)⟩
 split at hT
 ·simp at hT
 ·rename_i dd hn hu
  simp only [execOp,Instr.makeInterface,Sem.run_bind,run_underlying hu,Result.andThen_ok]
  simp
 ·simp at hT
def xnil:PV->Bool
 | .ptr _ _=>true
 | .rop _ _=>true
 | .fn _ _=>true
 | _=>false
theorem oD {x:Operand} {p:PV} (hx:xev E.G ra x=some p) (h:xnil p=true):AOp E ⟨d,.nilCheck x,ty,pos,after,g⟩ ra rl p []:=by
 refine bA fun A w σ al L a r h1 h2=>?_
 have hv:=aQ r h1 hx
 generalize he:a.eval x=v at hv
 cases hv <;> simp [xnil] at h
 all_goals refine ⟨a.eval x,by simp [execOp,he],?_⟩;rw [he]
 ·rename_i hs;exact .ptr hs
 ·rename_i cs him hl hvv;exact .rop cs him hl hvv
 ·rename_i caps f cs hl hvv;exact .fn f cs hl hvv
def Bp (P:Program) (src dst:TypeId):PV->Option PV
 | .int _ n=>match P.underlying src,P.underlying dst with
  | some _,some (.int k)=>some (.int k (k.wrap n))
  | _,_=>none
 | .str s=>match P.underlying src,P.underlying dst with
  | some .string,some .string=>some (.str s)
  | _,_=>none
 | _=>none
theorem pZ {s t:TypeId} {x:Operand} {p q:PV} (hx:xev E.G ra x=some p) (h:Bp E.P s t p=some q):AOp E ⟨d,.convert s t x,ty,pos,after,g⟩ ra rl q []:=by
 refine bA fun A w σ al L a r h1 h2=>?_
 have hv:=aQ r h1 hx
 unfold Bp at h
 split at h
 ·split at h
  ·rename_i e1 e2
   simp at h;subst h
   generalize he:a.eval x=v at hv
   cases hv
   exact ⟨_,by simp [execOp,convert,he,run_underlying e1,run_underlying e2,Conv.intToInt],.int _ _⟩
  ·simp at h
 ·split at h
  ·rename_i e1 e2
   simp at h;subst h
   generalize he:a.eval x=v at hv
   cases hv
   exact ⟨_,by simp [execOp,convert,he,run_underlying e1,run_underlying e2],.str _⟩
  ·simp at h
 ·simp at h
def xlen:PV->Option Nat
 | .str s=>some s.length
 | .nils=>some 0
 | .ro _ n _=>some n
 | .rw _ _ n _ _=>some n
 | .fs _ _ n _=>some n
 | _=>none
def EG (P:Program) (t:TypeId) (p:PV):Bool:=match P.underlying t,p with
 | some .string,.str _=>true
 | some (.slice _),.nils=>true
 | some (.slice _),.ro _ _ _=>true
 | some (.slice _),.rw _ _ _ _ _=>true
 | some (.slice _),.fs _ _ _ _=>true
 | _,_=>false
theorem Fh {x:Operand} {t:TypeId} {p:PV} {n:Nat} (hx:xev E.G ra x=some p) (hn:xlen p=some n) (ht:EG E.P t p=true) :
  AOp E ⟨d,.call ⟨.builtin .len,#[x],#[t]⟩,ty,pos,after,g⟩ ra rl (.int .i64 n) []:=by
 refine bA fun A w σ al L a r h1 h2=>⟨.int .i64 n,?_,.int _ _⟩
 have hv:=aQ r h1 hx
 unfold EG at ht
 split at ht <;> rename_i hu <;> first | (simp at ht;done) | skip
 all_goals
  generalize he:a.eval x=v at hv
  cases hv <;> simp [xlen] at hn <;> subst hn <;> simp [execOp,resolve,invoke,builtin,Builtin.len_,run_underlying hu,he,goInt] <;> rfl
theorem tZ {x:Operand} {t e:TypeId} {n:Nat} (hu:E.P.underlying t=some (.array n e)) :
  AOp E ⟨d,.call ⟨.builtin .len,#[x],#[t]⟩,ty,pos,after,g⟩ ra rl (.int .i64 n) []:=by
 refine bA fun A w σ al L a r h1 h2=>⟨.int .i64 n,?_,.int _ _⟩
 simp [execOp,resolve,invoke,builtin,Builtin.len_,run_underlying hu,goInt]
theorem oT {x:Operand} {t u e:TypeId} {n:Nat} (hu:E.P.underlying t=some (.pointer u)) (hu2:E.P.underlying u=some (.array n e)) :
  AOp E ⟨d,.call ⟨.builtin .len,#[x],#[t]⟩,ty,pos,after,g⟩ ra rl (.int .i64 n) []:=by
 refine bA fun A w σ al L a r h1 h2=>⟨.int .i64 n,?_,.int _ _⟩
 simp [execOp,resolve,invoke,builtin,Builtin.len_,run_underlying hu,run_underlying hu2,goInt]
def oF (mx:Bool) (k:IntKind) (m:Int):List PV->Option Int
 | []=>some m
 | .int k' n::r=>if k'=k then oF mx k (if mx then (if n>m then n else m) else (if n<m then n else m)) r else none
 | _=>none
theorem Ff {xs:Array Operand} {ts:Array TypeId} {k:IntKind} {m q:Int} {ps:List PV} (hx:xevs E.G ra xs.toList=some (.int k m::ps)) (h:oF false k m ps=some q) :
  AOp E ⟨d,.call ⟨.builtin .min,xs,ts⟩,ty,pos,after,g⟩ ra rl (.int k q) []:=by
 refine bA fun A w σ al L a r h1 h2=>⟨.int k q,?_,.int _ _⟩
 obtain ⟨e1,e2⟩:=p7 r h1 _ _ hx
 have key:∀(ps:List PV) (vs:List Value) (m q:Int),ps.length=vs.length->(∀(j:Nat) (x:PV) (v:Value),ps[j]?=some x->vs[j]?=some v->VR w σ (avo A σ L) x v)->oF false k m ps=some q ->
   (vs.foldlM Builtin.min2 (.int k m)).run E.P w = .ok (.int k q) w:=by
  intro ps
  induction ps with
  | nil=>intro vs m q hl _ h;cases vs with | nil=>simp [oF] at h;subst h;simp | cons _ _=>simp at hl
  | cons p ps ih=>
   intro vs m q hl hv h
   cases vs with
   | nil=>simp at hl
   | cons v vs=>
    have h0:=hv 0 p v rfl rfl
    cases h0 <;> simp [oF] at h
    obtain ⟨hk,h⟩:=h
    subst hk
    simp only [List.foldlM_cons,Sem.run_bind,Builtin.min2,Sem.run_pure,Result.andThen_ok]
    exact ih vs _ q (by simpa using hl) (fun j x v h1 h2=>hv (j+1) x v (by simpa using h1) (by simpa using h2)) h
 cases hvs:xs.toList.map a.eval with
 | nil=>rw [hvs] at e1;simp at e1
 | cons v vs=>
  rw [hvs] at e1 e2
  have h0:=e2 0 _ v rfl rfl
  cases h0
  have:=key ps vs m q (by simpa using e1) (fun j x v h1 h2=>e2 (j+1) x v (by simpa using h1) (by simpa using h2)) h
  have hm:(xs.map a.eval).toList = .int k m::vs:=by simpa using hvs
  simp [execOp,resolve,invoke,builtin,Builtin.min_,hvs,this]
theorem Fg {xs:Array Operand} {ts:Array TypeId} {k:IntKind} {m q:Int} {ps:List PV} (hx:xevs E.G ra xs.toList=some (.int k m::ps)) (h:oF true k m ps=some q) :
  AOp E ⟨d,.call ⟨.builtin .max,xs,ts⟩,ty,pos,after,g⟩ ra rl (.int k q) []:=by
 refine bA fun A w σ al L a r h1 h2=>⟨.int k q,?_,.int _ _⟩
 obtain ⟨e1,e2⟩:=p7 r h1 _ _ hx
 have key:∀(ps:List PV) (vs:List Value) (m q:Int),ps.length=vs.length->(∀(j:Nat) (x:PV) (v:Value),ps[j]?=some x->vs[j]?=some v->VR w σ (avo A σ L) x v)->oF true k m ps=some q ->
   (vs.foldlM Builtin.max2 (.int k m)).run E.P w = .ok (.int k q) w:=by
  intro ps
  induction ps with
  | nil=>intro vs m q hl _ h;cases vs with | nil=>simp [oF] at h;subst h;simp | cons _ _=>simp at hl
  | cons p ps ih=>
   intro vs m q hl hv h
   cases vs with
   | nil=>simp at hl
   | cons v vs=>
    have h0:=hv 0 p v rfl rfl
    cases h0 <;> simp [oF] at h
    obtain ⟨hk,h⟩:=h
    subst hk
    simp only [List.foldlM_cons,Sem.run_bind,Builtin.max2,Sem.run_pure,Result.andThen_ok]
    exact ih vs _ q (by simpa using hl) (fun j x v h1 h2=>hv (j+1) x v (by simpa using h1) (by simpa using h2)) h
 cases hvs:xs.toList.map a.eval with
 | nil=>rw [hvs] at e1;simp at e1
 | cons v vs=>
  rw [hvs] at e1 e2
  have h0:=e2 0 _ v rfl rfl
  cases h0
  have:=key ps vs m q (by simpa using e1) (fun j x v h1 h2=>e2 (j+1) x v (by simpa using h1) (by simpa using h2)) h
  simp [execOp,resolve,invoke,builtin,Builtin.max_,hvs,this]
end
end Go.SH
namespace Go.SH
def SlC (L:Lb) (sz:Nat) (p:PV) (cells:List PV) (n:Nat):Prop:=
 cells.length=n*sz/\match p with
  | .nils=>n=0
  | .ro cs m _=>m=n/\cs=cells
  | .rw l off m s _=>m=n/\s=sz/\∃cs,lget L l=some (some cs)/\(cs.drop off).take (n*sz)=cells
  | _=>False
theorem rv {w:World} {σ:Sig} {A:Nat->Prop} {L:Lb} (hb:BR w σ A L) {p:PV} {v:Value} (hv:VR w σ (avo A σ L) p v) {sz n:Nat} {cells:List PV} (h:SlC L sz p cells n) :
  ∃a cap,v = .slice a n cap/\n<=cap/\(cells=[]\/∃β o,a=some ⟨β,o,none⟩/\∀i x,cells[i]?=some x->∃u,w.cell? ⟨β,o+i,none⟩=some u/\VR w σ (avo A σ L) x u):=by
 obtain ⟨hl,h⟩:=h
 cases hv with
 | nils=>simp at h;subst h;exact ⟨none,0,rfl,Nat.le_refl _,.inl (by simpa using hl)⟩
 | roE a cap hc=>
  simp at h;obtain ⟨rfl,rfl⟩:=h
  exact ⟨a,cap,rfl,Nat.zero_le _,.inl rfl⟩
 | ro cs him hl' hvv hn hc=>
  simp at h;obtain ⟨rfl,rfl⟩:=h
  refine ⟨_,_,rfl,hn,.inr ⟨_,_,rfl,fun i x hx=>?_⟩⟩
  have hi:i<cs.length:=by rw [<-hl'];exact (List.getElem?_eq_some_iff.1 hx).1
  exact ⟨cs[i],him.cell i _ (List.getElem?_eq_getElem hi),hvv i x _ hx (List.getElem?_eq_getElem hi)⟩
 | rwE a hc=>
  simp at h
  obtain ⟨rfl,rfl,cs,h1,h2⟩:=h
  exact ⟨a,0,rfl,Nat.le_refl _,.inl (by simpa using hl)⟩
 | rw hs hn hc hsz=>
  rename_i l off n' sz' co β add size cap
  simp at h
  obtain ⟨rfl,rfl,cs,h1,h2⟩:=h
  refine ⟨_,_,rfl,hn,?_⟩
  rcases hb.all l cs h1 with ⟨h3,h4⟩ | ⟨β',add',size',c,T,fr,hB⟩
  ·rw [hs] at h3;simp at h3
  ·have:=hB.sig;rw [hs] at this;simp at this
   obtain ⟨rfl,rfl,rfl⟩:=this
   refine .inr ⟨_,_,rfl,fun i x hx=>?_⟩
   have hx':cs[off+i]?=some x:=by
    rw [<-h2,List.getElem?_take] at hx
    split at hx
    ·rw [List.getElem?_drop] at hx;exact hx
    ·simp at hx
   obtain ⟨u,h5,h6⟩:=hB.vals _ x hx'
   exact ⟨u,by rw [fK hB.heap];rw [<-h5];congr 1;omega,h6⟩
 | _=>simp at h
theorem tA {P:Program} {w:World} {σ:Sig} {A:Nat->Prop} {L:Lb} (hb:BR w σ A L) {p:PV} {v:Value} (hv:VR w σ (avo A σ L) p v) {sz n:Nat} {cells:List PV} (h:SlC L sz p cells n) :
  ∃us:List Value,us.length=n*sz/\(∀(i:Nat) (x:PV),cells[i]?=some x->∃u,us[i]?=some u/\VR w σ (avo A σ L) x u) /\
   ∀w2:World,w2.heap=w.heap->(Builtin.firstCells sz n v).run P w2 = .ok us.toArray w2:=by
 obtain ⟨a,cap,rfl,hn,hc⟩:=rv hb hv h
 obtain ⟨hl,_⟩:=h
 rcases hc with rfl | ⟨β,o,rfl,hc⟩
 ·refine ⟨[],by simpa using hl,by simp,fun w2 _=>?_⟩
  cases a with
  | none=>simp [Builtin.firstCells]
  | some a=>simp at hl;simp [Builtin.firstCells,<-hl,loadCells,loadCellsFrom]
 ·let f:Nat->Value:=fun j=>((w.cell? ⟨β,o+j,none⟩).getD undef)
  refine ⟨(List.range (n*sz)).map f,by simp,fun i x hx=>?_,fun w2 hw=>?_⟩
  ·have hi:i<n*sz:=by rw [<-hl];exact (List.getElem?_eq_some_iff.1 hx).1
   obtain ⟨u,h1,h2⟩:=hc i x hx
   exact ⟨u,by simp [List.getElem?_range hi,f,h1],h2⟩
  ·refine run_firstCells_some w2 sz n ⟨β,o,none⟩ n cap _ (by simp) fun j u hu=>?_
   have hj:j<n*sz:=by have:=(List.getElem?_eq_some_iff.1 hu).1;simpa using this
   simp [List.getElem?_range hj] at hu
   obtain ⟨u',h1,h2⟩:=hc j _ (List.getElem?_eq_getElem (by omega))
   rw [fT]
   have:w2.cell? ⟨β,o+j,none⟩=w.cell? ⟨β,o+j,none⟩:=by simp [World.cell?,hw]
   rw [this,h1]
   simp [f,h1] at hu
   rw [hu]
section
variable {E:Env} {d:Option Tmp} {ty:TypeId} {pos:String} {after:Array Edge} {g:Option (Nat×Bool)} {ra:Al} {rl:Lb}
def jN (sz:Nat) (i:Int):PV->Option PV
 | .ro cells _ _=>some (.rop cells (i.toNat*sz))
 | .rw l off _ _ _=>some (.ptr l (off+i.toNat*sz))
 | _=>none
theorem iF {T e:TypeId} {ie:TypeInfo} {x ix:Operand} {p q:PV} {k:IntKind} {i:Int} {n:Nat} (hx:xev E.G ra x=some p) (hi:xev E.G ra ix=some (.int k i)) (hT:E.P.underlying T=some (.slice e))
  (he:E.P.info? e=some ie) (hn:xlen p=some n) (h0:0<=i) (hlt:i<n) (hq:jN ie.size i p=some q) :
  AOp E ⟨d,.indexAddr T x ix,ty,pos,after,g⟩ ra rl q []:=by
 refine bA fun A w σ al L a r h1 h2=>?_
 have hv:=aQ r h1 hx
 have hw:=aQ r h1 hi
 generalize hei:a.eval ix=vi at hw
 cases hw
 generalize hex:a.eval x=vx at hv
 unfold jN at hq
 split at hq <;> simp at hq <;> subst hq
 ·cases hv with
  | roE a' cap hc=>simp [xlen] at hn;omega
  | ro cs him hl hvv hle hc=>
   rename_i cells n' co β add cap
   simp [xlen] at hn;subst hn
   refine ⟨.pointer (some ⟨β,add+i.toNat*ie.size,none⟩),?_,.rop cs him hl hvv⟩
   simp [execOp,Instr.indexAt,hei,asIntOf,run_underlying hT,hex,h0,hlt,bm he,fT]
 ·cases hv with
  | rwE a' hc=>simp [xlen] at hn;omega
  | rw hs hle hc hsz=>
   rename_i l off n' sz' co β add size cap
   simp [xlen] at hn;subst hn
   refine ⟨.pointer (some ⟨β,add+(off+i.toNat*ie.size),none⟩),?_,.ptr hs⟩
   simp [execOp,Instr.indexAt,hei,asIntOf,run_underlying hT,hex,h0,hlt,bm he,fT,Nat.add_assoc]
theorem fB {T e:TypeId} {ie:TypeInfo} {x ix:Operand} {p q:PV} {k:IntKind} {i:Int} {n:Nat} (hx:xev E.G ra x=some p) (hi:xev E.G ra ix=some (.int k i)) (hT:E.P.underlying T=some (.array n e))
  (he:E.P.info? e=some ie) (h0:0<=i) (hlt:i<n) (hq:bX (i.toNat*ie.size) p=some q) :
  AOp E ⟨d,.indexAddr T x ix,ty,pos,after,g⟩ ra rl q []:=by
 refine bA fun A w σ al L a r h1 h2=>?_
 have hv:=aQ r h1 hx
 have hw:=aQ r h1 hi
 generalize hei:a.eval ix=vi at hw
 cases hw
 generalize hex:a.eval x=vx at hv
 unfold bX at hq
 split at hq <;> simp at hq <;> subst hq
 ·cases hv with
  | ptr hs=>
   rename_i l off β add size
   refine ⟨.pointer (some ⟨β,add+(off+i.toNat*ie.size),none⟩),?_,.ptr hs⟩
   simp [execOp,Instr.indexAt,hei,asIntOf,run_underlying hT,hex,Instr.sureAddr,h0,hlt,bm he,fT,Nat.add_assoc]
 ·cases hv with
  | rop cs him hl hvv=>
   rename_i cells off β add
   refine ⟨.pointer (some ⟨β,add+(off+i.toNat*ie.size),none⟩),?_,.rop cs him hl hvv⟩
   simp [execOp,Instr.indexAt,hei,asIntOf,run_underlying hT,hex,Instr.sureAddr,h0,hlt,bm he,fT,Nat.add_assoc]
theorem ua {T:TypeId} {x ix:Operand} {s:List UInt8} {k:IntKind} {i:Int} {c:UInt8} (hx:xev E.G ra x=some (.str s)) (hi:xev E.G ra ix=some (.int k i)) (hT:E.P.underlying T=some .string)
  (h0:0<=i) (hc:s[i.toNat]?=some c):AOp E ⟨d,.index T x ix,ty,pos,after,g⟩ ra rl (.int .u8 c.toNat) []:=by
 refine bA fun A w σ al L a r h1 h2=>⟨.int .u8 c.toNat,?_,.int _ _⟩
 have hv:=aQ r h1 hx
 have hw:=aQ r h1 hi
 generalize hei:a.eval ix=vi at hw
 cases hw
 generalize hex:a.eval x=vx at hv
 cases hv
 have hlt:i.toNat<s.length:=(List.getElem?_eq_some_iff.1 hc).1
 have hs:(⟨⟨s⟩⟩:ByteArray)[i.toNat]?=some c:=by
  have hlt':i.toNat<(⟨⟨s⟩⟩:ByteArray).size:=hlt
  rw [getElem?_pos (⟨⟨s⟩⟩:ByteArray) i.toNat hlt']
  rw [List.getElem?_eq_getElem hlt] at hc
  simp at hc;rw [<-hc];rfl
 simp [execOp,Instr.index,hei,asIntOf,run_underlying hT,hex,h0,hs]
theorem ub {T e:TypeId} {ie:TypeInfo} {x ix:Operand} {cells:List PV} {k:IntKind} {i:Int} {n:Nat} {q:PV} (hx:xev E.G ra x=some (.agg cells)) (hi:xev E.G ra ix=some (.int k i))
  (hT:E.P.underlying T=some (.array n e)) (he:E.P.info? e=some ie) (h0:0<=i) (hlt:i<n) (hq:oE E.P e cells (i.toNat*ie.size)=some q) :
  AOp E ⟨d,.index T x ix,ty,pos,after,g⟩ ra rl q []:=by
 refine bA fun A w σ al L a r h1 h2=>?_
 have hv:=aQ r h1 hx
 have hw:=aQ r h1 hi
 generalize hei:a.eval ix=vi at hw
 cases hw
 generalize hex:a.eval x=vx at hv
 cases hv with
 | agg cs hl hvv=>
 obtain ⟨u,h3,h4⟩:=Bo hq hl hvv
 exact ⟨u,by simp [execOp,Instr.index,hei,asIntOf,run_underlying hT,hex,h0,hlt,bm he,h3],h4⟩
theorem AF (s:List UInt8) (l h:Nat):(⟨⟨s⟩⟩:ByteArray).extract l h=⟨⟨(s.drop l).take (h-l)⟩⟩:=by
 apply ByteArray.ext
 simp [ByteArray.data_extract]
def bnd (G:List (Nat×List PV)) (ra:Al) (o:Option Operand) (dflt:Nat) (n:Nat):Prop:=
 match o with
 | none=>n=dflt
 | some x=>∃k:IntKind,xev G ra x=some (.int k n)
theorem uU {A:Nat->Prop} {w:World} {σ:Sig} {al:Al} {L:Lb} {a:Act} (r:Rel E A w σ al L a) (h1:∀t y,lget ra t=some y->lget al t=some y) {o:Option Operand} {dflt n:Nat} (h:bnd E.G ra o dflt n) :
  (o=none/\n=dflt)\/∃x k,o=some x/\a.eval x = .int k n:=by
 cases o with
 | none=>exact .inl ⟨rfl,h⟩
 | some x=>
  obtain ⟨k,hk⟩:=h
  have hv:=aQ r h1 hk
  generalize he:a.eval x=v at hv
  cases hv
  exact .inr ⟨x,k,rfl,he⟩
theorem Bg {T:TypeId} {x:Operand} {lo hi:Option Operand} {s:List UInt8} {l h:Nat} (hx:xev E.G ra x=some (.str s)) (hT:E.P.underlying T=some .string)
  (hl:bnd E.G ra lo 0 l) (hh:bnd E.G ra hi s.length h) (hle:l<=h) (hle':h<=s.length) :
  AOp E ⟨d,.slice T x lo hi none,ty,pos,after,g⟩ ra rl (.str ((s.drop l).take (h-l))) []:=by
 refine bA fun A w σ al L a r h1 h2=>⟨.string ⟨⟨(s.drop l).take (h-l)⟩⟩,?_,.str _⟩
 have hv:=aQ r h1 hx
 generalize hex:a.eval x=vx at hv
 cases hv
 have hsz:(⟨⟨s⟩⟩:ByteArray).size=s.length:=rfl
 rcases uU r h1 hl with ⟨rfl,rfl⟩ | ⟨xl,kl,rfl,el⟩ <;> rcases uU r h1 hh with ⟨rfl,rfl⟩ | ⟨xh,kh,rfl,eh⟩
 all_goals simp [execOp,Instr.sliceAt,Instr.slice,run_underlying hT,hex,Instr.sliceBounds,Instr.sliceBound,asIntOf,hsz, *,AF]
def wF (sz l h:Nat):PV->Option PV
 | .ro cells n _=>some (.ro ((cells.drop (l*sz)).take ((h-l)*sz)) (h-l) none)
 | .rw b off n s _=>if s=sz then some (.rw b (off+l*sz) (h-l) sz none) else none
 | .nils=>some (.ro [] 0 none)
 | _=>none
theorem zZ {T e:TypeId} {ie:TypeInfo} {x:Operand} {lo hi:Option Operand} {p q:PV} {n l h:Nat} (hx:xev E.G ra x=some p) (hT:E.P.underlying T=some (.slice e)) (he:E.P.info? e=some ie)
  (hn:xlen p=some n) (hl:bnd E.G ra lo 0 l) (hh:bnd E.G ra hi n h) (hle:l<=h) (hle':h<=n) (hq:wF ie.size l h p=some q) (hpos:0<ie.size)
  (hlen:∀cells m co,p = .ro cells m co->cells.length=m*ie.size) :
  AOp E ⟨d,.slice T x lo hi none,ty,pos,after,g⟩ ra rl q []:=by
 refine bA fun A w σ al L a r h1 h2=>?_
 have hv:=aQ r h1 hx
 have key:∀(ad:Option Addr) (cap:Nat),a.eval x = .slice ad n cap->n<=cap ->
   (execOp a.eval ⟨d,.slice T x lo hi none,ty,pos,after,g⟩).run E.P w = .ok (.value (.slice (if cap=l then ad else ad.map (·.add (l*ie.size))) (h-l) (cap-l))) w:=by
  intro ad cap hex hcap
  have c1:h<=cap:=by omega
  have c2:(l:Int)<=h:=by omega
  rcases uU r h1 hl with ⟨rfl,rfl⟩ | ⟨xl,kl,rfl,el⟩ <;> rcases uU r h1 hh with ⟨rfl,rfl⟩ | ⟨xh,kh,rfl,eh⟩
  all_goals simp [execOp,Instr.sliceAt,Instr.slice,run_underlying hT,hex,Instr.sliceBounds,Instr.sliceBound,asIntOf,bm he, *]
 generalize hex:a.eval x=vx at hv
 unfold wF at hq
 split at hq
 ·rename_i cells n' co
  simp at hq;subst hq
  simp [xlen] at hn;subst hn
  have hcl:=hlen _ _ _ rfl
  cases hv with
  | roE a' cap hc=>
   have:h=0:=by omega
   subst this
   have:l=0:=by omega
   subst this
   exact ⟨_,key _ _ hex (Nat.zero_le _),by simpa using .roE _ _ (by simp)⟩
  | ro cs him hl' hvv hle2 hc=>
   rename_i β add cap
   refine ⟨_,key _ _ hex hle2,?_⟩
   by_cases hz:h=l
   ·subst hz
    simp
    exact .roE _ _ (by simp)
   ·have:¬cap=l:=by omega
    rw [if_neg this]
    simp only [Option.map_some,fT]
    refine VR.ro ((cs.drop (l*ie.size)).take ((h-l)*ie.size)) ⟨him.lt,him.na,fun i v hv=>?_⟩ (by simp [hl']) (fun i x v hx hv=>?_) (by omega) (by simp)
    ·rw [List.getElem?_take] at hv
     split at hv
     ·rw [List.getElem?_drop] at hv
      have:=him.cell _ v hv
      rw [<-this];congr 2;omega
     ·simp at hv
    ·rw [List.getElem?_take] at hx hv
     split at hx
     ·rename_i hi
      rw [if_pos hi] at hv
      rw [List.getElem?_drop] at hx hv
      exact hvv _ x v hx hv
     ·simp at hx
 ·rename_i b off n' s co
  split at hq
  ·rename_i hs
   subst hs
   simp at hq;subst hq
   simp [xlen] at hn;subst hn
   cases hv with
   | rwE a' hc=>
    have:h=0:=by omega
    subst this
    have:l=0:=by omega
    subst this
    exact ⟨_,key _ _ hex (Nat.zero_le _),by simpa using .rwE _ (by simp)⟩
   | rw hsg hle2 hc hsz=>
    rename_i β add size cap
    refine ⟨_,key _ _ hex hle2,?_⟩
    by_cases hcl:cap=l
    ·have:h=l:=by omega
     subst this;subst hcl
     simp
     exact .rwE _ (by simp)
    ·rw [if_neg hcl]
     simp only [Option.map_some,fT]
     have e:add+off+l*ie.size=add+(off+l*ie.size):=by omega
     rw [e]
     refine VR.rw hsg (by omega) (by simp) ?_
     have:(cap-l)*ie.size+l*ie.size=cap*ie.size:=by rw [<-Nat.add_mul];congr 1;omega
     omega
  ·simp at hq
 ·simp at hq;subst hq
  simp [xlen] at hn;subst hn
  cases hv
  have:h=0:=by omega
  subst this
  have:l=0:=by omega
  subst this
  exact ⟨_,key _ _ hex (Nat.zero_le _),by simpa using .roE _ _ (by simp)⟩
 ·simp at hq
end
end Go.SH
namespace Go.SH
theorem BR.virtual {w:World} {σ:Sig} {A:Nat->Prop} {L:Lb} (h:BR w σ A L) {l:Nat} (hl:lget L l=none) :
  BR w σ A (lset L l (some []))/\Grow top w σ L w σ (lset L l (some [])):=by
 have hf:=h.fresh hl
 have hlav:∀γ,cd σ (lset L l (some [])) γ->cd σ L γ:=by
  rintro γ ⟨k,d,a,s,hk,hs⟩
  rw [ao] at hk
  by_cases hkl:l=k
  ·subst hkl;rw [hf] at hs;simp at hs
  ·rw [if_neg hkl] at hk;exact ⟨k,d,a,s,hk,hs⟩
 have hav:∀γ,avOf σ (lset L l (some [])) γ->avOf σ L γ:=fun γ h=>h.imp (hlav γ) id
 have hg:Grow top w σ L w σ (lset L l (some [])):=⟨Nat.le_refl _,fun _ _ _ h=>h,fun γ _ hn=>⟨fun ha=>hn (hav γ ha),rfl⟩,⟨rfl,rfl,rfl⟩,fun _ _ _ _ h=>⟨h,rfl⟩⟩
 refine ⟨⟨?_,?_,?_,?_,h.fr.mono (Nat.le_refl _) (fun _ _ _ k=>k) (fun _ _ _ _=>rfl) fun _ γ _ _=>hlav γ⟩,hg⟩
 ·intro k d hk
  rw [ao] at hk
  by_cases hkl:l=k
  ·subst hkl;simp at hk;exact .inl ⟨hf,hk⟩
  ·rw [if_neg hkl] at hk
   rcases h.all k d hk with h1 | ⟨γ,add',size',cc,TT,fr',hb'⟩
   ·exact .inl h1
   ·exact .inr ⟨γ,add',size',cc,TT,fr',⟨hb'.sig,hb'.heap,hb'.hsz,hb'.fits,fun i x hx=>let ⟨v,h1,h2⟩:=hb'.vals i x hx;⟨v,h1,h2.grow hg⟩,hb'.frs⟩⟩
 ·intro k k' d d' γ a s a' s' hk hk' hs hs'
  rw [ao] at hk hk'
  by_cases h1:l=k
  ·subst h1;rw [hf] at hs;simp at hs
  ·by_cases h2:l=k'
   ·subst h2;rw [hf] at hs';simp at hs'
   ·rw [if_neg h1] at hk;rw [if_neg h2] at hk'
    exact h.inj k k' d d' γ a s a' s' hk hk' hs hs'
 ·intro k x hs
  exact di (h.dom k x hs)
 ·intro γ hA
  obtain ⟨h1,h2⟩:=h.lo γ hA
  exact ⟨h1,fun ha=>h2 (hav γ ha)⟩
theorem BR.relabel {w w':World} {σ:Sig} {A:Nat->Prop} {L:Lb} (h:BR w σ A L) {l lab:Nat} {cells cells':List PV} (hl:lget L l=some (some cells)) (hlab:lget L lab=none)
  {β add size:Nat} {c c':Array Value} {T:TypeId} {fr:Nat×Nat} (hb:Blk w σ (avo A σ L) l cells β add size c T fr) (off:Nat)
  (hsz:w'.heap.size=w.heap.size) (ho:∀k,k≠β->w'.heap[k]?=w.heap[k]?) (hw:w'.heap[β]?=some (.cells c' T fr)) (hc:c'.size=size)
  (hfit:add+off+cells'.length<=size) (hv:∀(i:Nat) (x:PV),cells'[i]?=some x->∃v,c'[add+off+i]?=some v/\VR w σ (avo A σ L) x v) (hout:w'.os=w.os/\w'.output=w.output/\w'.tape=w.tape:=by first | exact ⟨rfl,rfl,rfl⟩ | assumption) :
  BR w' (supd σ lab (β,add+off,size)) A (lset (lset L l none) lab (some cells'))/\Grow top w σ L w' (supd σ lab (β,add+off,size)) (lset (lset L l none) lab (some cells')):=by
 have hne:lab≠l:=by rintro rfl;rw [hl] at hlab;simp at hlab
 have hf:=h.fresh hlab
 have hβl:cd σ L β:=⟨l,cells,add,size,hl,hb.sig⟩
 have hβ:avOf σ L β:=.inl hβl
 have hlav:∀γ,cd (supd σ lab (β,add+off,size)) (lset (lset L l none) lab (some cells')) γ->cd σ L γ:=by
  rintro γ ⟨k,d,a,s,hk,hs⟩
  rw [ao] at hk
  by_cases h1:lab=k
  ·subst h1;rw [dJ] at hs;simp at hs;rw [<-hs.1];exact hβl
  ·rw [if_neg h1,ao] at hk
   rw [ck (Ne.symm h1)] at hs
   by_cases h2:l=k
   ·rw [if_pos h2] at hk;simp at hk
   ·rw [if_neg h2] at hk;exact ⟨k,d,a,s,hk,hs⟩
 have hav:∀γ,avOf (supd σ lab (β,add+off,size)) (lset (lset L l none) lab (some cells')) γ->avOf σ L γ:=fun γ h=>h.imp (hlav γ) id
 have hg:Grow top w σ L w' (supd σ lab (β,add+off,size)) (lset (lset L l none) lab (some cells')):=by
  refine ⟨by omega,fun k y _ hy=>?_,fun γ hγ hn=>⟨fun ha=>hn (hav γ ha),ho γ (fun e=>hn (e▸hβ))⟩,hout,fun _ q γ ad hq=>⟨hq,ho γ fun e=>(h.fr.fam q γ ad hq).2 (e▸hβl)⟩⟩
  by_cases hk:k=lab
  ·subst hk;rw [hf] at hy;simp at hy
  ·rw [ck hk];exact hy
 refine ⟨⟨?_,?_,?_,?_,h.fr.mono (by omega) (fun _ _ _ k=>k) (fun q γ ad hq=>ho γ fun e=>(h.fr.fam q γ ad hq).2 (e▸hβl)) fun _ γ _ _=>hlav γ⟩,hg⟩
 ·intro k d hk
  rw [ao] at hk
  by_cases h1:lab=k
  ·subst h1
   simp at hk;subst hk
   refine .inr ⟨β,add+off,size,c',T,fr,⟨dJ _ _ _,hw,hc,hfit,?_,hb.frs⟩⟩
   intro i x hx
   obtain ⟨v,h1,h2⟩:=hv i x hx
   exact ⟨v,h1,h2.grow hg⟩
  ·rw [if_neg h1,ao] at hk
   by_cases h2:l=k
   ·rw [if_pos h2] at hk;simp at hk
   ·rw [if_neg h2] at hk
    rcases h.all k d hk with ⟨h3,h4⟩ | ⟨γ,add',size',cc,TT,fr',hb'⟩
    ·exact .inl ⟨by rw [ck (Ne.symm h1)];exact h3,h4⟩
    ·have hne':γ≠β:=fun e=>h2 (h.inj l k cells d β add size add' size' hl hk hb.sig (by rw [<-e];exact hb'.sig))
     refine .inr ⟨γ,add',size',cc,TT,fr',⟨by rw [ck (Ne.symm h1)];exact hb'.sig,by rw [ho γ hne'];exact hb'.heap,hb'.hsz,hb'.fits,?_,hb'.frs⟩⟩
     intro i x hx
     obtain ⟨v,h5,h6⟩:=hb'.vals i x hx
     exact ⟨v,h5,h6.grow hg⟩
 ·intro k k' d d' γ a s a' s' hk hk' hs hs'
  have back:∀k d γ a s,lget (lset (lset L l none) lab (some cells')) k=some (some d)->supd σ lab (β,add+off,size) k=some (γ,a,s)->(k=lab/\γ=β)\/(k≠lab/\k≠l/\lget L k=some (some d)/\σ k=some (γ,a,s)):=by
   intro k d γ a s hk hs
   rw [ao] at hk
   by_cases h1:lab=k
   ·subst h1;rw [dJ] at hs;simp at hs;exact .inl ⟨rfl,hs.1.symm⟩
   ·rw [if_neg h1,ao] at hk
    rw [ck (Ne.symm h1)] at hs
    by_cases h2:l=k
    ·rw [if_pos h2] at hk;simp at hk
    ·rw [if_neg h2] at hk;exact .inr ⟨Ne.symm h1,Ne.symm h2,hk,hs⟩
  rcases back k d γ a s hk hs with ⟨e1,e2⟩ | ⟨e1,e2,e3,e4⟩ <;> rcases back k' d' γ a' s' hk' hs' with ⟨f1,f2⟩ | ⟨f1,f2,f3,f4⟩
  ·rw [e1,f1]
  ·subst e2;exact absurd (h.inj l k' cells d' γ add size a' s' hl f3 hb.sig f4) (Ne.symm f2)
  ·subst f2;exact absurd (h.inj l k cells d γ add size a s hl e3 hb.sig e4) (Ne.symm e2)
  ·exact h.inj k k' d d' γ a s a' s' e3 f3 e4 f4
 ·intro k x hs
  by_cases h1:k=lab
  ·subst h1;rw [ao];simp
  ·rw [ck h1] at hs
   exact di (di (h.dom k x hs))
 ·intro γ hA
  obtain ⟨h1,h2⟩:=h.lo γ hA
  exact ⟨by omega,fun ha=>h2 (hav γ ha)⟩
def sb (P:Program) (L:Lb) (sz:Nat) (tx:TypeId) (p:PV) (news:List PV) (k:Nat):Prop:=
 ((∃e',P.underlying tx=some (.slice e'))/\SlC L sz p news k/\news.all PV.one=true) \/
 (P.underlying tx=some .string/\sz=1/\∃s:List UInt8,p = .str s/\k=s.length/\news=s.map fun b=>.int .u8 b.toNat)
theorem zQ {P:Program} {w:World} {σ:Sig} {A:Nat->Prop} {L:Lb} (hb:BR w σ A L) {p:PV} {v:Value} (hv:VR w σ (avo A σ L) p v) {sz k:Nat} {tx:TypeId} {news:List PV} (h:sb P L sz tx p news k) :
  ∃us:List Value,Src P sz tx v k us w/\news.length=us.length/\∀(i:Nat) (x:PV),news[i]?=some x->∃u,us[i]?=some u/\VR w σ (avo A σ L) x u:=by
 rcases h with ⟨⟨e',hk⟩,hs,h1⟩ | ⟨hk,rfl,s,rfl,rfl,rfl⟩
 ·obtain ⟨us,l1,l2,l3⟩:=tA (P:=P) hb hv hs
  have hlen:news.length=us.length:=by rw [hs.1,l1]
  refine ⟨us,⟨.inl ⟨e',hk⟩,?_,l3 w rfl,l3 w.drew rfl,l1,?_⟩,hlen,l2⟩
  ·intro w'
   obtain ⟨a,cap,rfl,_⟩:=rv hb hv hs
   rfl
  ·intro u hu
   obtain ⟨i,hi,rfl⟩:=List.mem_iff_getElem.1 hu
   have hi':i<news.length:=by omega
   obtain ⟨u,h5,h6⟩:=l2 i _ (List.getElem?_eq_getElem hi')
   rw [List.getElem?_eq_getElem hi] at h5
   simp at h5;rw [h5]
   exact As h6 (List.all_eq_true.1 h1 _ (List.getElem_mem hi'))
 ·cases hv
  have hs:=Src.ofString (P:=P) w hk ⟨⟨s⟩⟩
  refine ⟨_,hs,by simp [byteCells],fun i x hx=>?_⟩
  simp at hx
  obtain ⟨b,hb,rfl⟩:=hx
  exact ⟨.int .u8 b.toNat,by simp [byteCells,hb],.int _ _⟩
section
variable {E:Env} {d:Option Tmp} {ty:TypeId} {pos:String} {after:Array Edge} {g:Option (Nat×Bool)} {ra:Al} {rl:Lb}
theorem oO (w:World) (o:Obj) (i:Nat) (h:i<w.heap.size):(w.drew.alloc o).heap[i]?=w.heap[i]?:=B6 w.drew o i h
theorem C0 {T tx e:TypeId} {ie:TypeInfo} {x y:Operand} {p q:PV} {news:List PV} {k:Nat} (lab:Nat) (hx:xev E.G ra x=some p) (hy:xev E.G ra y=some q) (hT:E.P.underlying T=some (.slice e))
  (he:E.P.info? e=some ie) {z:List PV} (hz:g7 E.P e=some z) (hzl:z.length=ie.size) (hp:p = .nils\/p = .ro [] 0 (some 0)) (hs:sb E.P rl ie.size tx q news k) (hpos:0<ie.size)
  (hk:k*ie.bytes<=140737488355328) (hk2:k<=9223372036854775807) (hrl:lget rl lab=none) :
  AOp E ⟨d,.call ⟨.builtin .append,#[x,y],#[T,tx]⟩,ty,pos,after,g⟩ ra rl (.rw lab 0 k ie.size none) [(lab,some news)]:=by
 intro A w σ al L a r e1 e2 e3
 have hv:=aQ r e1 hx
 have hw:=aQ r e1 hy
 have hf:lget L lab=none:=by
  rcases e3 (lab,some news) (by simp) with h | h
  ·exact absurd hrl h
  ·exact h
 have hs':sb E.P L ie.size tx q news k:=by
  rcases hs with ⟨h1,⟨h2,h3⟩,h4⟩ | h
  ·refine .inl ⟨h1,⟨h2,?_⟩,h4⟩
   cases q <;> first | exact h3 | skip
   obtain ⟨a1,a2,cs,a3,a4⟩:=h3
   exact ⟨a1,a2,cs,e2 _ _ a3,a4⟩
  ·exact .inr h
 obtain ⟨us,s1,s2,s3⟩:=zQ r.blocks hw hs'
 have hbase:∃ad,a.eval x = .slice ad 0 0:=by
  generalize a.eval x=vx at hv
  rcases hp with rfl | rfl
  ·cases hv;exact ⟨_,rfl⟩
  ·cases hv with
   | roE a' cap hc=>exact ⟨a',by rw [hc 0 rfl]⟩
   | ro cs him hl hvv hn hc=>exact ⟨_,by rw [hc 0 rfl]⟩
 obtain ⟨ad,hbase⟩:=hbase
 obtain ⟨it,zv,z1,z2,z3⟩:=zc hz
 rw [he] at z1;simp at z1;subst z1
 unfold Oper.wp
 by_cases hk0:k=0
 ·subst hk0
  have hn0:news=[]:=by
   have:=s1.newsLen;rw [Nat.zero_mul] at this
   exact List.eq_nil_of_length_eq_zero (by omega)
  subst hn0
  have hu0:us=[]:=List.eq_nil_of_length_eq_zero (by simpa using s2.symm)
  subst hu0
  have hrun:(execOp a.eval ⟨d,.call ⟨.builtin .append,#[x,y],#[T,tx]⟩,ty,pos,after,g⟩).run E.P w = .ok (.value (.slice ad 0 0)) w:=by
   rcases s1.kind with ⟨e',hk⟩ | hk <;> cases ad <;> simp [execOp,resolve,invoke,builtin,Builtin.append_,run_underlying hT,run_underlying hk,hbase,bm he,s1.len,s1.cells,storeCells]
  rw [hrun]
  obtain ⟨b1,b2⟩:=r.blocks.virtual hf
  exact ⟨σ,_,rfl,.rwE ad (by simp),b1,b2⟩
 ·have hold:(Builtin.firstCells ie.size 0 (.slice ad 0 0)).run E.P w.drew = .ok (([]:List Value)).toArray w.drew:=by
   cases ad <;> simp [Builtin.firstCells,loadCells,loadCellsFrom]
  have hgr:=run_append_grow_src w T tx ty e ie zv hT he z2 ad 0 0 [] hold (a.eval y) k us s1 (by omega) (by omega) (growslice_fits (by omega) (by simpa using hk))
  have hrun:(execOp a.eval ⟨d,.call ⟨.builtin .append,#[x,y],#[T,tx]⟩,ty,pos,after,g⟩).run E.P w =
    .ok (.value (.slice (some ⟨w.heap.size,0,none⟩) k (grownCap w (0+k) 0 e))) (w.drew.alloc (.cells (us.toArray++Builtin.zeroCells zv.cells (grownCap w (0+k) 0 e-(0+k))) e)):=by
   simp only [execOp,resolve,invoke,builtin]
   simp [hbase]
   simp [hgr]
  rw [hrun]
  have hcap:k<=grownCap w (0+k) 0 e:=by simp [grownCap,Question.cut]
  obtain ⟨l1,l2⟩:=nG (w:=w) (σ:=σ) (av:=avo A σ L) z3
  obtain ⟨b1,b2⟩:=r.blocks.alloc hf news (us.toArray++Builtin.zeroCells zv.cells (grownCap w (0+k) 0 e-(0+k))) e (fr:=(0,0))
   (w':=w.drew.alloc (.cells (us.toArray++Builtin.zeroCells zv.cells (grownCap w (0+k) 0 e-(0+k))) e)) (by simp) (fun β hb=>oO w _ β hb) (heap_alloc_new w.drew _) (by omega) (by simp;omega)
   (fun i u hu=>by
    obtain ⟨v,h1,h2⟩:=s3 i u hu
    refine ⟨v,?_,h2⟩
    have hi:i<us.length:=(List.getElem?_eq_some_iff.1 h1).1
    rw [Array.getElem?_append_left (by simpa using hi)]
    simpa using h1)
  refine ⟨_,_,rfl,.rw (off:=0) (dJ _ _ _) hcap (by simp) ?_,b1,b2⟩
  have:=s1.newsLen
  have e5:grownCap w (0+k) 0 e*ie.size=k*ie.size+(grownCap w (0+k) 0 e-(0+k))*ie.size:=by rw [<-Nat.add_mul];congr 1;omega
  simp only [Array.size_append,List.size_toArray,Builtin.zeroCells,Array.size_map,Array.size_range]
  rw [<-l1,hzl,e5,this]
  omega
theorem BR.drop_alloc {w w':World} {σ:Sig} {A:Nat->Prop} {L:Lb} (h:BR w σ A L) {l lab:Nat} (hlab:lget L lab=none) (hne:lab≠l) (cells:List PV) (cs:Array Value) (T:TypeId)
  (hsz:w'.heap.size=w.heap.size+1) (ho:∀β,β<w.heap.size->w'.heap[β]?=w.heap[β]?) (hn:w'.heap[w.heap.size]?=some (.cells cs T (0,0)))
  (hlen:cells.length<=cs.size) (hv:∀(i:Nat) (x:PV),cells[i]?=some x->∃v,cs[i]?=some v/\VR w σ (avo A σ L) x v) (hout:w'.os=w.os/\w'.output=w.output/\w'.tape=w.tape:=by first | exact ⟨rfl,rfl,rfl⟩ | assumption) :
  BR w' (supd σ lab (w.heap.size,0,cs.size)) A (lset (lset L l none) lab (some cells))/\Grow top w σ L w' (supd σ lab (w.heap.size,0,cs.size)) (lset (lset L l none) lab (some cells)):=by
 obtain ⟨b1,b2⟩:=h.drop l
 obtain ⟨b3,b4⟩:=b1.alloc (l:=lab) (by rw [ao,if_neg (Ne.symm hne)];exact hlab) cells cs T (fr:=(0,0)) hsz ho hn (by omega) hlen (fun i x hx=>let ⟨v,h1,h2⟩:=hv i x hx;⟨v,h1,h2.grow b2⟩)
 exact ⟨b3,b2.trans b4⟩
theorem CZ {T tx e:TypeId} {ie:TypeInfo} {x y:Operand} {l off n:Nat} {co:Option Nat} {q:PV} {cells news:List PV} {k:Nat} (lab:Nat) (hx:xev E.G ra x=some (.rw l off n ie.size co))
  (hy:xev E.G ra y=some q) (hT:E.P.underlying T=some (.slice e)) (he:E.P.info? e=some ie) {z:List PV} (hz:g7 E.P e=some z) (hzl:z.length=ie.size) (hcl:lget rl l=some (some cells))
  (hin:off+n*ie.size<=cells.length) (hs:sb E.P rl ie.size tx q news k) (hpos:0<ie.size) (hk:(n+k)*ie.bytes<=140737488355328) (hk2:n+k<=9223372036854775807) (hrl:lget rl lab=none) :
  AOp E ⟨d,.call ⟨.builtin .append,#[x,y],#[T,tx]⟩,ty,pos,after,g⟩ ra rl (.rw lab 0 (n+k) ie.size none) [(l,none),(lab,some ((cells.drop off).take (n*ie.size)++news))]:=by
 intro A w σ al L a r e1 e2 e3
 have hv:=aQ r e1 hx
 have hw:=aQ r e1 hy
 have hf:lget L lab=none:=by
  rcases e3 (lab,_) (by simp;exact .inr rfl) with h | h
  ·exact absurd hrl h
  ·exact h
 have hL:=e2 _ _ hcl
 have hne:lab≠l:=by rintro rfl;rw [hL] at hf;simp at hf
 have hs':sb E.P L ie.size tx q news k:=by
  rcases hs with ⟨h1,⟨h2,h3⟩,h4⟩ | h
  ·refine .inl ⟨h1,⟨h2,?_⟩,h4⟩
   cases q <;> first | exact h3 | skip
   obtain ⟨a1,a2,cs,a3,a4⟩:=h3
   exact ⟨a1,a2,cs,e2 _ _ a3,a4⟩
  ·exact .inr h
 obtain ⟨us,s1,s2,s3⟩:=zQ r.blocks hw hs'
 obtain ⟨it,zv,z1,z2,z3⟩:=zc hz
 rw [he] at z1;simp at z1;subst z1
 obtain ⟨l1,l2⟩:=nG (w:=w) (σ:=σ) (av:=avo A σ L) z3
 have hold:SlC L ie.size (.rw l off n ie.size co) ((cells.drop off).take (n*ie.size)) n:=⟨by simp;omega,rfl,rfl,cells,hL,rfl⟩
 obtain ⟨os,o1,o2,o3⟩:=tA (P:=E.P) r.blocks hv hold
 obtain ⟨ad,cap,hbase,hncap,_⟩:=rv r.blocks hv hold
 have hlup:lupd L [(l,none),(lab,some ((cells.drop off).take (n*ie.size)++news))]=lset (lset L l none) lab (some ((cells.drop off).take (n*ie.size)++news)):=rfl
 unfold Oper.wp
 have grow:cap<n+k->∃v w',(execOp a.eval ⟨d,.call ⟨.builtin .append,#[x,y],#[T,tx]⟩,ty,pos,after,g⟩).run E.P w = .ok (.value v) w' /\
   ∃σ',VR w' σ' (avo A σ' (lset (lset L l none) lab (some ((cells.drop off).take (n*ie.size)++news)))) (.rw lab 0 (n+k) ie.size none) v /\
    BR w' σ' A (lset (lset L l none) lab (some ((cells.drop off).take (n*ie.size)++news)))/\Grow top w σ L w' σ' (lset (lset L l none) lab (some ((cells.drop off).take (n*ie.size)++news))):=by
  intro hg
  have hgr:=run_append_grow_src w T tx ty e ie zv hT he z2 ad n cap os (by rw [hbase] at o3;exact o3 w.drew rfl) (a.eval y) k us s1 hg (by omega) (growslice_fits hg hk)
  have hrun:(execOp a.eval ⟨d,.call ⟨.builtin .append,#[x,y],#[T,tx]⟩,ty,pos,after,g⟩).run E.P w =
    .ok (.value (.slice (some ⟨w.heap.size,0,none⟩) (n+k) (grownCap w (n+k) cap e))) (w.drew.alloc (.cells ((os++us).toArray++Builtin.zeroCells zv.cells (grownCap w (n+k) cap e-(n+k))) e)):=by
   simp only [execOp,resolve,invoke,builtin]
   simp only [List.map_toArray,List.map_cons,List.map_nil,hbase,Sem.run_bind,Sem.run_pure,Result.andThen_ok,hgr]
  have hcap:n+k<=grownCap w (n+k) cap e:=by simp [grownCap,Question.cut]
  have hsize:((os++us).toArray++Builtin.zeroCells zv.cells (grownCap w (n+k) cap e-(n+k))).size=grownCap w (n+k) cap e*ie.size:=by
   have:=s1.newsLen
   have e5:grownCap w (n+k) cap e*ie.size=(n+k)*ie.size+(grownCap w (n+k) cap e-(n+k))*ie.size:=by rw [<-Nat.add_mul];congr 1;omega
   simp only [Array.size_append,List.size_toArray,List.length_append,Builtin.zeroCells,Array.size_map,Array.size_range]
   rw [<-l1,hzl,e5,this,o1,Nat.add_mul]
  obtain ⟨b1,b2⟩:=r.blocks.drop_alloc (l:=l) hf hne ((cells.drop off).take (n*ie.size)++news) ((os++us).toArray++Builtin.zeroCells zv.cells (grownCap w (n+k) cap e-(n+k))) e
   (w':=w.drew.alloc (.cells ((os++us).toArray++Builtin.zeroCells zv.cells (grownCap w (n+k) cap e-(n+k))) e)) (by simp) (fun β hb=>oO w _ β hb) (heap_alloc_new w.drew _)
   (by rw [hsize,List.length_append,hold.1,s2,s1.newsLen,<-Nat.add_mul];exact Nat.mul_le_mul_right _ hcap)
   (fun i u hu=>by
    have ho1:((cells.drop off).take (n*ie.size)).length=os.length:=by rw [hold.1,o1]
    by_cases hi:i<os.length
    ·rw [List.getElem?_append_left (by omega)] at hu
     obtain ⟨v,h1,h2⟩:=o2 i u hu
     refine ⟨v,?_,h2⟩
     rw [Array.getElem?_append_left (by simp;omega)]
     simp [List.getElem?_append_left hi,h1]
    ·rw [List.getElem?_append_right (by omega)] at hu
     obtain ⟨v,h1,h2⟩:=s3 _ u hu
     refine ⟨v,?_,h2⟩
     have hi2:i-((cells.drop off).take (n*ie.size)).length<us.length:=(List.getElem?_eq_some_iff.1 h1).1
     rw [Array.getElem?_append_left (by simp;omega)]
     have e6:i-((cells.drop off).take (n*ie.size)).length=i-os.length:=by rw [ho1]
     rw [e6] at h1
     simp [List.getElem?_append_right (Nat.le_of_not_lt hi),h1])
  exact ⟨_,_,hrun,_,.rw (off:=0) (dJ _ _ _) hcap (by simp) (by rw [hsize];omega),b1,b2⟩
 by_cases hroom:n+k<=cap
 ·-- in place
  generalize hex:a.eval x=vx at hv
  rw [hbase] at hex;subst hex
  cases hv with
  | rwE a' hc=>
   have hk0:k=0:=by omega
   subst hk0
   have hu0:us=[]:=List.eq_nil_of_length_eq_zero (by have:=s1.newsLen;simpa using this)
   have hn0:news=[]:=List.eq_nil_of_length_eq_zero (by rw [s2,hu0];rfl)
   subst hu0;subst hn0
   have hrun:(execOp a.eval ⟨d,.call ⟨.builtin .append,#[x,y],#[T,tx]⟩,ty,pos,after,g⟩).run E.P w = .ok (.value (.slice ad 0 0)) w:=by
    simp only [execOp,resolve,invoke,builtin]
    rcases s1.kind with ⟨e',hk⟩ | hk <;> cases ad <;> simp [Builtin.append_,run_underlying hT,run_underlying hk,hbase,bm he,s1.len,s1.cells,storeCells]
   rw [hrun]
   obtain ⟨b1,b2⟩:=r.blocks.drop l
   obtain ⟨b3,b4⟩:=b1.virtual (l:=lab) (by rw [ao,if_neg (Ne.symm hne)];exact hf)
   have hc0:(cells.drop off).take (0*ie.size)++([]:List PV)=[]:=by simp
   refine ⟨σ,_,rfl,.rwE ad (by simp),?_,?_⟩
   ·rw [hlup,hc0];exact b3
   ·rw [hlup,hc0];exact b2.trans b4
  | @rw _ _ _ _ _ β add size _ hsg hle hc hsz=>
   rcases r.blocks.all l cells hL with ⟨h3,h4⟩ | ⟨β',add',size',c,TT,fr,hB⟩
   ·rw [hsg] at h3;simp at h3
   ·have hsig:=hB.sig;rw [hsg] at hsig;simp at hsig
    obtain ⟨rfl,rfl,rfl⟩:=hsig
    have hnl:=s1.newsLen
    have hmul:n*ie.size+k*ie.size<=cap*ie.size:=by rw [<-Nat.add_mul];exact Nat.mul_le_mul_right _ hroom
    have hcs:=hB.hsz
    obtain ⟨w',c',t1,t2,t3,t4,t5,t6,t7⟩:=j4 (P:=E.P) (o:=add+off+n*ie.size) us 0 w c hB.heap (by omega) (by intro j hj hj';exact hB.free j (by omega) (by omega)) s1.one
    have hrun:(execOp a.eval ⟨d,.call ⟨.builtin .append,#[x,y],#[T,tx]⟩,ty,pos,after,g⟩).run E.P w = .ok (.value (.slice (some ⟨β,add+off,none⟩) (n+k) cap)) w':=by
     simp only [execOp,resolve,invoke,builtin]
     rcases s1.kind with ⟨e',hk⟩ | hk <;> simp [Builtin.append_,run_underlying hT,run_underlying hk,hbase,bm he,s1.len,s1.cells,hroom,fT,t1]
    rw [hrun]
    obtain ⟨b1,b2⟩:=r.blocks.relabel (lab:=lab) hL hf (cells':=(cells.drop off).take (n*ie.size)++news) hB off t2 t3 t4 (by omega) (by rw [List.length_append,hold.1,s2,hnl];omega) (by
     intro i u hu
     rw [t6]
     by_cases hi:i<n*ie.size
     ·rw [List.getElem?_append_left (by rw [hold.1];exact hi),List.getElem?_take,if_pos hi,List.getElem?_drop] at hu
      rw [if_neg (by omega)]
      obtain ⟨v,h1,h2⟩:=hB.vals _ u hu
      exact ⟨v,by rw [<-h1];congr 1;omega,h2⟩
     ·rw [List.getElem?_append_right (by rw [hold.1];omega),hold.1] at hu
      obtain ⟨v,h1,h2⟩:=s3 _ u hu
      have hi2:=(List.getElem?_eq_some_iff.1 h1).1
      rw [if_pos (by omega)]
      exact ⟨v,by rw [<-h1];congr 1;omega,h2⟩)
    refine ⟨_,_,rfl,.rw (off:=0) (dJ _ _ _) hroom (by simp) ?_,b1,b2⟩
    omega
 ·obtain ⟨v,w',hrun,σ',h1,h2,h3⟩:=grow (by omega)
  rw [hrun]
  exact ⟨σ',v,rfl,h1,h2,h3⟩
end
end Go.SH
namespace Go.SH
open IntKind (i64 u64 i32 u8)
section
variable {E:Env} {d:Option Tmp} {ty:TypeId} {pos:String} {after:Array Edge} {g:Option (Nat×Bool)} {ra:Al} {rl:Lb}
theorem wT {rl L:Lb} (e2:∀l y,lget rl l=some y->lget L l=some y) {sz n:Nat} {q:PV} {cs:List PV} (h:SlC rl sz q cs n):SlC L sz q cs n:=by
 obtain ⟨h2,h3⟩:=h
 refine ⟨h2,?_⟩
 cases q <;> first | exact h3 | skip
 obtain ⟨a1,a2,cs,a3,a4⟩:=h3
 exact ⟨a1,a2,cs,e2 _ _ a3,a4⟩
theorem yJ {P:Program} {w:World} {σ:Sig} {A:Nat->Prop} {L:Lb} (hb:BR w σ A L) {p:PV} {v:Value} (hv:VR w σ (avo A σ L) p v) {sz n m:Nat} {cells:List PV} (h:SlC L sz p cells n) (hm:m<=n) :
  ∃us:List Value,us.length=m*sz/\(∀(i:Nat) (x:PV),(cells.take (m*sz))[i]?=some x->∃u,us[i]?=some u/\VR w σ (avo A σ L) x u)/\(Builtin.firstCells sz m v).run P w = .ok us.toArray w:=by
 obtain ⟨a,cap,rfl,hn,hc⟩:=rv hb hv h
 have hl:=h.1
 have hmn:m*sz<=n*sz:=Nat.mul_le_mul_right _ hm
 rcases hc with rfl | ⟨β,o,rfl,hc⟩
 ·have:m*sz=0:=by simp at hl;omega
  refine ⟨[],by simp [this],by simp,?_⟩
  cases a with
  | none=>simp [Builtin.firstCells]
  | some a=>simp [Builtin.firstCells,this,loadCells,loadCellsFrom]
 ·let f:Nat->Value:=fun j=>((w.cell? ⟨β,o+j,none⟩).getD undef)
  refine ⟨(List.range (m*sz)).map f,by simp,fun i x hx=>?_,?_⟩
  ·rw [List.getElem?_take] at hx
   split at hx
   ·rename_i hi
    obtain ⟨u,h1,h2⟩:=hc i x hx
    exact ⟨u,by simp [List.getElem?_range hi,f,h1],h2⟩
   ·simp at hx
  ·refine run_firstCells_some w sz m ⟨β,o,none⟩ n cap _ (by simp) fun j u hu=>?_
   have hj:j<m*sz:=by have:=(List.getElem?_eq_some_iff.1 hu).1;simpa using this
   simp [List.getElem?_range hj] at hu
   obtain ⟨u',h1,h2⟩:=hc j _ (List.getElem?_eq_getElem (by omega))
   rw [fT,h1]
   simp [f,h1] at hu
   rw [hu]
theorem Im {T tx e:TypeId} {ie:TypeInfo} {x y:Operand} {l off n:Nat} {co:Option Nat} {q:PV} {cells cont:List PV} {k m:Nat} (hx:xev E.G ra x=some (.rw l off n ie.size co)) (hy:xev E.G ra y=some q)
  (hT:E.P.underlying T=some (.slice e)) (he:E.P.info? e=some ie) (hcl:lget rl l=some (some cells)) (hin:off+n*ie.size<=cells.length) (hs:SlC rl ie.size q cont k) (h1:cont.all PV.one=true)
  (hm:m=Nat.min k n):AOp E ⟨d,.call ⟨.builtin .copy,#[x,y],#[T,tx]⟩,ty,pos,after,g⟩ ra rl (.int .i64 m) [(l,some (dw cells off (cont.take (m*ie.size))))]:=by
 intro A w σ al L a r e1 e2 e3
 have hv:=aQ r e1 hx
 have hw:=aQ r e1 hy
 have hL:=e2 _ _ hcl
 have hs':=wT e2 hs
 have hmk:m<=k:=by rw [hm];exact Nat.min_le_left _ _
 have hmn:m<=n:=by rw [hm];exact Nat.min_le_right _ _
 obtain ⟨us,u1,u2,u3⟩:=yJ (P:=E.P) r.blocks hw hs' hmk
 have hone:∀v∈us,v.oneCell'=true:=by
  intro u hu
  obtain ⟨i,hi,rfl⟩:=List.mem_iff_getElem.1 hu
  have hkm:m*ie.size<=k*ie.size:=Nat.mul_le_mul_right _ hmk
  have hi':i<(cont.take (m*ie.size)).length:=by rw [List.length_take,hs.1];omega
  obtain ⟨v,h5,h6⟩:=u2 i _ (List.getElem?_eq_getElem hi')
  rw [List.getElem?_eq_getElem hi] at h5
  simp at h5;rw [h5]
  exact As h6 (List.all_eq_true.1 h1 _ (List.mem_of_mem_take (List.getElem_mem hi')))
 obtain ⟨ay,capy,hey,_⟩:=rv r.blocks hw hs'
 have hlen:(Builtin.lenOf (a.eval y)).run E.P w = .ok k w:=by rw [hey];rfl
 have hkm:m*ie.size<=k*ie.size:=Nat.mul_le_mul_right _ hmk
 have hnm:m*ie.size<=n*ie.size:=Nat.mul_le_mul_right _ hmn
 have htl:(cont.take (m*ie.size)).length=m*ie.size:=by rw [List.length_take,hs.1];omega
 unfold Oper.wp
 generalize hex:a.eval x=vx at hv
 have hmin:k.min n=m:=hm.symm
 cases hv with
 | rwE a' hc=>
  have hm0:m=0:=by omega
  subst hm0
  have hu0:us=[]:=List.eq_nil_of_length_eq_zero (by simpa using u1)
  subst hu0
  have hrun:(execOp a.eval ⟨d,.call ⟨.builtin .copy,#[x,y],#[T,tx]⟩,ty,pos,after,g⟩).run E.P w = .ok (.value (.int .i64 (0:Nat))) w:=by
   simp only [execOp,resolve,invoke,builtin]
   cases a' <;> simp [Builtin.copy_,run_underlying hT,hex,bm he,hlen,hmin,u3,storeCells,goInt]
  rw [hrun]
  have hsp:dw cells off (cont.take (0*ie.size))=cells:=by simp [dw]
  have hw0:lset L l (some cells)=lset L l (some cells):=rfl
  have hgoal:BR w σ A (lset L l (some cells))/\Grow top w σ L w σ (lset L l (some cells)):=by
   rcases r.blocks.all l cells hL with ⟨h3,h4⟩ | ⟨β,add,size,c,TT,fr,hB⟩
   ·subst h4
    have heq:∀k,lget (lset L l (some [])) k=lget L k:=by
     intro k;rw [ao];split
     ·rename_i hk;rw [<-hk,hL]
     ·rfl
    have hlav:∀γ,cd σ (lset L l (some [])) γ<->cd σ L γ:=by
     intro γ;simp only [cd,heq]
    have hav:∀γ,avOf σ (lset L l (some [])) γ<->avOf σ L γ:=by
     intro γ;simp only [avOf,hlav]
    have havo:∀γ,avo A σ (lset L l (some [])) γ<->avo A σ L γ:=by intro γ;simp only [avo,hav]
    have hg:Grow top w σ L w σ (lset L l (some [])):=⟨Nat.le_refl _,fun _ _ _ h=>h,fun γ _ hn=>⟨fun h=>hn ((hav γ).1 h),rfl⟩,⟨rfl,rfl,rfl⟩,fun _ _ _ _ h=>⟨h,rfl⟩⟩
    refine ⟨⟨fun k c hk=>?_,fun k k' c c' γ a s a' s' hk hk'=>?_,fun k y hy=>?_,fun γ hA=>?_,r.blocks.fr.mono (Nat.le_refl _) (fun _ _ _ k=>k) (fun _ _ _ _=>rfl) fun _ γ _ _=>(hlav γ).1⟩,hg⟩
    ·rw [heq] at hk
     rcases r.blocks.all k c hk with h | ⟨γ,a2,s2,c2,T2,f2,hB⟩
     ·exact .inl h
     ·exact .inr ⟨γ,a2,s2,c2,T2,f2,⟨hB.sig,hB.heap,hB.hsz,hB.fits,fun i x hx=>let ⟨v,h1,h2⟩:=hB.vals i x hx;⟨v,h1,h2.grow hg⟩,hB.frs⟩⟩
    ·rw [heq] at hk hk';exact r.blocks.inj k k' c c' γ a s a' s' hk hk'
    ·rw [heq];exact r.blocks.dom k y hy
    ·obtain ⟨h1,h2⟩:=r.blocks.lo γ hA;exact ⟨h1,fun h=>h2 ((hav γ).1 h)⟩
   ·exact r.blocks.write hL hB rfl (fun _ _=>rfl) hB.heap hB.hsz hB.fits hB.vals
  refine ⟨σ,_,rfl,.int _ _,?_,?_⟩
  ·show BR w σ A (lset L l (some (dw cells off (cont.take (0*ie.size)))));rw [hsp];exact hgoal.1
  ·show Grow top w σ L w σ (lset L l (some (dw cells off (cont.take (0*ie.size)))));rw [hsp];exact hgoal.2
 | @rw _ _ _ _ _ β add size cap hsg hle hc hsz=>
  rcases r.blocks.all l cells hL with ⟨h3,h4⟩ | ⟨β',add',size',c,TT,fr,hB⟩
  ·rw [hsg] at h3;simp at h3
  ·have hsig:=hB.sig;rw [hsg] at hsig;simp at hsig
   obtain ⟨rfl,rfl,rfl⟩:=hsig
   have hcs:=hB.hsz
   have hfits:=hB.fits
   obtain ⟨w',c',t1,t2,t3,t4,t5,t6,t7⟩:=j4 (P:=E.P) (o:=add+off) us 0 w c hB.heap (by omega) (by intro j hj hj';exact hB.free j (by omega) (by omega)) hone
   have hrun:(execOp a.eval ⟨d,.call ⟨.builtin .copy,#[x,y],#[T,tx]⟩,ty,pos,after,g⟩).run E.P w = .ok (.value (.int .i64 m)) w':=by
    simp only [execOp,resolve,invoke,builtin]
    simp [Builtin.copy_,run_underlying hT,hex,bm he,hlen,hmin,u3,t1,goInt]
   rw [hrun]
   obtain ⟨b1,b2⟩:=r.blocks.write hL (cells':=dw cells off (cont.take (m*ie.size))) hB t2 t3 t4 (by omega) (by rw [j6 (by omega)];exact hfits) (by
    intro j y hy
    rw [kV (by omega)] at hy
    rw [t6]
    by_cases hj:off<=j/\j<off+(cont.take (m*ie.size)).length
    ·rw [if_pos hj] at hy
     rw [if_pos (by omega)]
     obtain ⟨u,hu,huv⟩:=u2 _ y hy
     exact ⟨u,by rw [<-hu];congr 1;omega,huv⟩
    ·rw [if_neg hj] at hy
     rw [if_neg (by omega)]
     exact hB.vals j y hy)
   exact ⟨σ,_,rfl,.int _ _,b1,b2⟩
theorem yU {T e:TypeId} {ie:TypeInfo} {x y:Operand} {n c:Nat} {k k':IntKind} {z:List PV} (lab:Nat) (hx:xev E.G ra x=some (.int k n)) (hy:xev E.G ra y=some (.int k' c)) (hT:E.P.underlying T=some (.slice e))
  (he:E.P.info? e=some ie) (hz:g7 E.P e=some z) (hzl:z.length=ie.size) (hpos:0<ie.size) (hnc:n<=c) (hb:c*ie.bytes<=140737488355328) (hc2:c<=9223372036854775807) (hrl:lget rl lab=none) :
  AOp E ⟨d,.makeSlice T x y,ty,pos,after,g⟩ ra rl (.rw lab 0 n ie.size (some c)) [(lab,some (zrow z (c*ie.size)))]:=by
 refine wE (fun A w σ al L a r h1 h2=>?_) hrl
 have hv:=aQ r h1 hx
 have hw:=aQ r h1 hy
 generalize hex:a.eval x=vx at hv
 cases hv
 generalize hey:a.eval y=vy at hw
 cases hw
 obtain ⟨it,zv,z1,z2,z3⟩:=zc hz
 rw [he] at z1;simp at z1;subst z1
 have wr:∀m:Nat,m<=9223372036854775807->i64.wrap (m:Int)=m:=by
  intro m hm
  exact IntWalk.i64_in _ ⟨by omega,by omega⟩
 obtain ⟨l1,l2⟩:=yV (w:=w) (σ:=σ) (av:=avo A σ L) z3 (c*ie.size) (.inr (by omega))
 refine ⟨(Array.range (c*ie.size)).map (zv.cells[· % zv.cells.size]!),e,.slice (some ⟨w.heap.size,0,none⟩) n c,?_,by simp [zrow],l2,fun w' σ' av' hs=>.rw (off:=0) hs hnc (by simp) (by simp)⟩
 have b1:¬((ie.bytes:Int)*(c:Int)>2^48):=by
  have:(ie.bytes:Int)*(c:Int)=((c*ie.bytes:Nat):Int):=by rw [Nat.mul_comm];simp
  rw [this];omega
 have b2:¬((c:Int)<n):=by omega
 have b3:¬((n:Int)>c):=by omega
 have b4:(281474976710656<(ie.bytes:Int)*(c:Int))=False:=eq_false (by simpa using b1)
 have b5:((c:Int)<0)=False:=eq_false (by omega)
 have b6:((n:Int)<0)=False:=eq_false (by omega)
 have b7:(c<n)=False:=eq_false (by omega)
 by_cases h0:c*ie.size=0
 ·have hc0:c=0:=by
   rcases Nat.mul_eq_zero.1 h0 with h | h
   ·exact h
   ·omega
  subst hc0
  have hn0:n=0:=by omega
  subst hn0
  have w0:i64.wrap 0=0:=IntWalk.i64_in _ ⟨by omega,by omega⟩
  have hr0:Array.range 0=#[]:=rfl
  simp [execOp,Instr.makeSlice,run_underlying hT,hex,hey,asInt,asIntOf,typeInfo,he,w0,sizeOf,newRow,hr0]
 ·simp [execOp,Instr.makeSlice,run_underlying hT,hex,hey,asInt,asIntOf,typeInfo,he,wr n (by omega),wr c hc2,b2,sizeOf,zeroValue,z2,h0,newRow,b4,b5,b6,b7]
theorem Eb {T yt:TypeId} {x y:Operand} {s t:List UInt8} (hx:xev E.G ra x=some (.str s)) (hy:xev E.G ra y=some (.str t)) (hb:s.length+t.length<=9223372036854775807) :
  AOp E ⟨d,.binOp .add T x y yt,ty,pos,after,g⟩ ra rl (.str (s++t)) []:=by
 refine bA fun A w σ al L a r h1 h2=>⟨.string ⟨⟨s++t⟩⟩,?_,.str _⟩
 have hv:=aQ r h1 hx
 have hw:=aQ r h1 hy
 generalize hex:a.eval x=vx at hv
 cases hv
 generalize hey:a.eval y=vy at hw
 cases hw
 have h3:=run_string_add_sum (P:=E.P) w ⟨⟨s⟩⟩ ⟨⟨t⟩⟩ hb
 have h4:(⟨⟨s⟩⟩:ByteArray)++⟨⟨t⟩⟩=⟨⟨s++t⟩⟩:=by
  apply ByteArray.ext;simp [ByteArray.data_append]
 rw [h4] at h3
 have h5:(eqGuard .add T x y (.string ⟨⟨s⟩⟩) (.string ⟨⟨t⟩⟩)).run E.P w = .ok () w:=oI
 simp only [execOp,hex,hey,Sem.run_bind,h5,Result.andThen_ok,binOp,h3]
 simp
def tR (s:List UInt8):List PV:=s.map fun b=>.int .u8 b.toNat
theorem Dw (s:List UInt8):∀(acc:ByteArray),(s.map fun b:UInt8=>(b.toNat:Int)).foldl (fun r n=>r.push (UInt8.ofNat n.toNat)) acc=⟨⟨acc.data.toList++s⟩⟩:=by
 induction s with
 | nil=>intro acc;simp
 | cons b s ih=>
  intro acc
  simp only [List.map_cons,List.foldl_cons]
  rw [ih]
  simp
theorem Bj {s t e:TypeId} {x:Operand} {p:PV} {bs:List UInt8} (hx:xev E.G ra x=some p) (hs:E.P.underlying s=some (.slice e)) (he:E.P.underlying e=some (.int .u8)) (ht:E.P.underlying t=some .string)
  (hc:SlC rl 1 p (tR bs) bs.length):AOp E ⟨d,.convert s t x,ty,pos,after,g⟩ ra rl (.str bs) []:=by
 refine bA fun A w σ al L a r h1 h2=>⟨.string ⟨⟨bs⟩⟩,?_,.str _⟩
 have hv:=aQ r h1 hx
 have hc':=wT h2 hc
 obtain ⟨us,u1,u2,u3⟩:=tA (P:=E.P) r.blocks hv hc'
 obtain ⟨ad,cap,hex,_,_⟩:=rv r.blocks hv hc'
 have hus:us=(bs.map fun b:UInt8=>(b.toNat:Int)).map (Value.int .u8):=by
  apply List.ext_getElem?
  intro i
  by_cases hi:i<bs.length
  ·obtain ⟨u,h5,h6⟩:=u2 i (.int .u8 bs[i].toNat) (by simp [tR,hi])
   rw [h5]
   cases h6
   simp [hi]
  ·rw [List.getElem?_eq_none (by omega),List.getElem?_eq_none (by simp;omega)]
 have h3:=u3 w rfl
 rw [hex] at h3
 have hconv:(convert s t (a.eval x)).run E.P w = .ok (.string ⟨⟨bs⟩⟩) w:=by
  rw [hex,run_convert_bytes_string w s t e ad _ cap hs he ht]
  cases ad with
  | none=>
   simp [Builtin.firstCells] at h3
   subst h3
   have:bs=[]:=List.eq_nil_of_length_eq_zero (by simpa using u1.symm)
   subst this
   simp [Conv.bytesToString]
   rfl
  | some ad=>
   simp only [Builtin.firstCells,Nat.mul_one] at h3
   rw [hus] at h3
   rw [run_bytesToString w ad bs.length cap _ h3,Dw]
   rfl
 simp [execOp,hconv]
end
end Go.SH
namespace Go.SH
def xres (P:Program) (al:Al) (L:Lb):List ResultVar->Option (List PV)
 | []=>some []
 | .tmp t::r=>match lget al t,xres P al L r with
  | some x,some xs=>some (x::xs)
  | _,_=>none
 | .cell s T::r=>match lget al s,xres P al L r with
  | some p,some xs=>match kg P T L p with
   | some x=>some (x::xs)
   | none=>none
  | _,_=>none
def rtup:List PV->PV
 | [x]=>x
 | xs=>.tup xs
theorem Gj {P:Program} {w:World} {σ:Sig} {A:Nat->Prop} {L:Lb} (hb:BR w σ A L) {T:TypeId} {p x:PV} {v:Value} (hv:VR w σ (avo A σ L) p v) (hx:kg P T L p=some x) :
  ∃ad u,v = .pointer (some ad)/\(loadVar T ad).run P w = .ok u w/\VR w σ (avo A σ L) x u:=by
 unfold kg at hx
 split at hx
 ·rename_i cells off i hlc hi hr
  split at hx
  ·rename_i hh
   simp at hx
   obtain ⟨β,o,he,hc⟩:=qh hb hv hlc (by intro h0;simp [h0] at hh;omega)
   obtain ⟨u,h3,h4⟩:=ob (P:=P) (off:=off) hc hi hr (.inl ⟨rfl,hh.1,hx.symm⟩)
   exact ⟨_,u,he,h3,h4⟩
  ·simp at hx
 ·rename_i cells off i hlc hi hr
  obtain ⟨β,o,he,hc⟩:=qh hb hv hlc (by intro h0;simp [h0] at hx)
  obtain ⟨u,h3,h4⟩:=ob (P:=P) (off:=off) hc hi hr (.inr ⟨rfl,hx⟩)
  exact ⟨_,u,he,h3,h4⟩
 ·simp at hx
def wg (tmps:Array Value):ResultVar->Sem Value
 | .tmp t=>pure (tmps.getD t undef)
 | .cell a t=>do loadVar t (<-asAddr (tmps.getD a undef))
theorem Ab {E:Env} {A:Nat->Prop} {w:World} {σ:Sig} {al:Al} {L:Lb} {a:Act} (r:Rel E A w σ al L a):∀(rs:List ResultVar) (xs:List PV),xres E.P al L rs=some xs ->
  ∃vs:List Value,(rs.mapM (wg a.tmps)).run E.P w = .ok vs w/\xs.length=vs.length/\∀(i:Nat) (x:PV) (v:Value),xs[i]?=some x->vs[i]?=some v->VR w σ (avo A σ L) x v
 | [],xs,h=>by simp [xres] at h;subst h;exact ⟨[],rfl,rfl,by simp⟩
 | .tmp t::rs,xs,h=>by
  simp only [xres] at h
  split at h
  ·rename_i x ys h1 h2
   simp at h;subst h
   obtain ⟨vs,e1,e2,e3⟩:=Ab r rs ys h2
   obtain ⟨v,hv,hr⟩:=r.tmps t x h1
   refine ⟨v::vs,?_,by simp [e2],fun i y u hy hu=>?_⟩
   ·simp [List.mapM_cons,wg,Array.getD_eq_getD_getElem?,hv,e1]
   ·cases i with
    | zero=>simp at hy hu;subst hy;subst hu;exact hr
    | succ i=>exact e3 i y u (by simpa using hy) (by simpa using hu)
  ·simp at h
 | .cell s T::rs,xs,h=>by
  simp only [xres] at h
  split at h
  ·rename_i p ys h1 h2
   split at h
   ·rename_i x hx
    simp at h;subst h
    obtain ⟨vs,e1,e2,e3⟩:=Ab r rs ys h2
    obtain ⟨v,hv,hr⟩:=r.tmps s p h1
    obtain ⟨ad,u,rfl,h4,h5⟩:=Gj (P:=E.P) r.blocks hr hx
    refine ⟨u::vs,?_,by simp [e2],fun i y u' hy hu=>?_⟩
    ·simp [List.mapM_cons,wg,Array.getD_eq_getD_getElem?,hv,asAddr,h4,e1]
    ·cases i with
     | zero=>simp at hy hu;subst hy;subst hu;exact h5
     | succ i=>exact e3 i y u' (by simpa using hy) (by simpa using hu)
   ·simp at h
  ·simp at h
theorem gl {E:Env} {A:Nat->Prop} {w:World} {σ:Sig} {al:Al} {L:Lb} {a:Act} (r:Rel E A w σ al L a) {fn:Func} {xs:List PV} (h:xres E.P al L fn.results.toList=some xs) :
  ∃v,(results fn a.tmps).run E.P w = .ok v w/\VR w σ (avo A σ L) (rtup xs) v:=by
 obtain ⟨vs,e1,e2,e3⟩:=Ab r _ _ h
 have hm:(results fn a.tmps).run E.P w = .ok (if h:vs.toArray.size=1 then vs.toArray[0] else .tuple vs.toArray) w:=by
  have hr:results fn a.tmps=(do let vs <-fn.results.mapM (wg a.tmps);pure (if h:vs.size=1 then vs[0] else .tuple vs)):=by
   unfold results
   congr 1
  rw [hr,Array.mapM_eq_mapM_toList]
  simp [e1]
 refine ⟨_,hm,?_⟩
 cases vs with
 | nil=>
  have:xs=[]:=List.eq_nil_of_length_eq_zero e2
  subst this
  exact VR.tup [] rfl (by simp)
 | cons v vs=>
  cases vs with
  | nil=>
   cases xs with
   | nil=>simp at e2
   | cons x xs=>
    have:xs=[]:=List.eq_nil_of_length_eq_zero (by simpa using e2)
    subst this
    exact e3 0 x v rfl rfl
  | cons v' vs=>
   have hr:rtup xs = .tup xs:=by
    cases xs with
    | nil=>rfl
    | cons x xs=>cases xs with
     | nil=>simp at e2
     | cons y ys=>rfl
   rw [hr]
   simp only [List.size_toArray,List.length_cons]
   rw [dif_neg (by omega)]
   exact VR.tup _ e2 e3
def Ends (P:Program) (fn:Func) (R:PV->Lb->Prop):Exit->Al->Lb->Prop:=
 fun e al L=>(match e with | .normal=>True | .ret=>True | _=>False)/\∃xs,xres P al L fn.results.toList=some xs/\R (rtup xs) L
def ylab:Nat:=1048574
mutual
def am (S:Nat->Bool):PV->Bool
 | .ptr l _=>S l
 | .rw l _ _ _ _=>S l
 | .rop cells _=>ag S cells
 | .ro cells _ _=>ag S cells
 | .fn _ caps=>ag S caps
 | .iface _ v=>am S v
 | .agg cells=>ag S cells
 | .tup vs=>ag S vs
 | .yld _ _ _ _ _ vs=>S ylab&&ag S vs
 | .fs _ cells _ _=>S flab&&ag S cells
 | _=>true
def ag (S:Nat->Bool):List PV->Bool
 | []=>true
 | x::xs=>am S x&&ag S xs
end
theorem az {S:Nat->Bool}:∀{xs:List PV} {i:Nat} {x:PV},ag S xs=true->xs[i]?=some x->am S x=true
 | [],i,x,_,h=>by simp at h
 | y::ys,i,x,h,hx=>by
  simp [ag] at h
  cases i with
  | zero=>simp at hx;subst hx;exact h.1
  | succ i=>exact az h.2 (by simpa using hx)
theorem ct {S:Nat->Bool}:∀(xs:List PV),ag S xs=xs.all (am S)
 | []=>rfl
 | x::xs=>by simp [ag,ct xs]
theorem VR.restrict {w:World} {σ σ1:Sig} {av av1:Nat->Prop} {x:PV} {v:Value} (h:VR w σ av x v) {S:Nat->Bool} (hS:∀l,S l=true->σ1 l=σ l) (hF:S flab=true->∀q β add,σ.fam q β add->σ1.fam q β add) (hav:∀β,¬av β->¬av1 β):am S x=true->VR w σ1 av1 x v:=by
 have imm:∀{β add cs},Imm w av β add cs->Imm w av1 β add cs:=fun h=>⟨h.lt,hav _ h.na,h.cell⟩
 induction h with
 | dead=>exact fun _=>.dead
 | int k n=>exact fun _=>.int k n
 | bool b=>exact fun _=>.bool b
 | str l=>exact fun _=>.str l
 | nilp=>exact fun _=>.nilp
 | ptr h=>exact fun hw=>.ptr ((hS _ (by simpa [am] using hw)).trans h)
 | rop cs him hl _ ih=>exact fun hw=>.rop cs (imm him) hl fun i x v hx hv=>ih i x v hx hv (az (by simpa [am] using hw) hx)
 | nils=>exact fun _=>.nils
 | roE a cap hc=>exact fun _=>.roE a cap hc
 | ro cs him hl _ hn hc ih=>exact fun hw=>.ro cs (imm him) hl (fun i x v hx hv=>ih i x v hx hv (az (by simpa [am] using hw) hx)) hn hc
 | rwE a hc=>exact fun _=>.rwE a hc
 | rw h hn hc hs'=>exact fun hw=>.rw ((hS _ (by simpa [am] using hw)).trans h) hn hc hs'
 | fsE a cap hc=>exact fun _=>.fsE a cap hc
 | fs h hh hfr hl _ hn hc hz ih=>
  intro hw
  simp only [am,Bool.and_eq_true] at hw
  exact .fs (hF hw.1 _ _ _ h) hh hfr hl (fun i x v hx hv=>ih i x v hx hv (az hw.2 hx)) hn hc hz
 | fn f cs hl _ ih=>exact fun hw=>.fn f cs hl fun i x v hx hv=>ih i x v hx hv (az (by simpa [am] using hw) hx)
 | nilf=>exact fun _=>.nilf
 | raw v=>exact fun _=>.raw v
 | iface t v _ ih=>exact fun hw=>.iface t v (ih (by simpa [am] using hw))
 | nili=>exact fun _=>.nili
 | ev T o h=>exact fun _=>.ev T o fun a e=>⟨hav _ (h a e).na,(h a e).heap⟩
 | xc g cs T fr v h0 hn hh=>exact fun _=>.xc g cs T fr v h0 (hav _ hn) hh
 | agg cs hl _ ih=>exact fun hw=>.agg cs hl fun i x v hx hv=>ih i x v hx hv (az (by simpa [am] using hw) hx)
 | tup cs hl _ ih=>exact fun hw=>.tup cs hl fun i x v hx hv=>ih i x v hx hv (az (by simpa [am] using hw) hx)
 | yld l fn dfr tmps cs hn hl hz hc ht _ ih=>
  intro hw
  simp only [am,Bool.and_eq_true] at hw
  exact .yld l fn dfr tmps cs (hav _ hn) hl hz hc ht fun i x v hx hv=>ih i x v hx hv (az hw.2 hx)
structure Turn (w w':World) (r:Nat):Prop where
 size:w'.heap.size=w.heap.size
 other:∀k,k≠r->w'.heap[k]?=w.heap[k]?
 out:w'.os=w.os/\w'.output=w.output/\w'.tape=w.tape
theorem Turn.put (w:World) (r:Nat) (o:Obj):Turn w (w.putObj r o) r:=⟨by simp,fun k hk=>World.putObj_heap_other hk,rfl,rfl,rfl⟩
theorem Imm.turn {w w':World} {av:Nat->Prop} {β add r:Nat} {cs:List Value} (h:Imm w av β add cs) (ht:Turn w w' r) {o:Obj} (ho:w.heap[r]?=some o) (hc:∀c T fr,o ≠ .cells c T fr):Imm w' av β add cs:=
 ⟨by rw [ht.size];exact h.lt,h.na,fun i v hv=>by
  have h1:=h.cell i v hv
  by_cases hb:β=r
  ·subst hb
   exfalso
   simp only [World.cell?,ho,Option.bind_some] at h1
   cases o <;> first | exact hc _ _ _ rfl | simp at h1
  ·simpa [World.cell?,ht.other β hb] using h1⟩
theorem VR.turn {w w':World} {σ:Sig} {av:Nat->Prop} {x:PV} {v:Value} {r:Nat} {S:Nat->Bool} (h:VR w σ av x v) (ht:Turn w w' r) {o:Obj} (ho:w.heap[r]?=some o) (hc:∀c T fr,o ≠ .cells c T fr)
  : ((∀q,o ≠ .loop q)\/(S ylab=false/\am S x=true))->VR w' σ av x v:=by
 have sub:∀{xs:List PV} {i:Nat} {x:PV},xs[i]?=some x->((∀q,o ≠ .loop q)\/(S ylab=false/\ag S xs=true))->((∀q,o ≠ .loop q)\/(S ylab=false/\am S x=true)):=fun hx h=>h.imp id fun h=>⟨h.1,az h.2 hx⟩
 induction h with
 | dead=>exact fun _=>.dead
 | int k n=>exact fun _=>.int k n
 | bool b=>exact fun _=>.bool b
 | str l=>exact fun _=>.str l
 | nilp=>exact fun _=>.nilp
 | ptr h=>exact fun _=>.ptr h
 | rop cs him hl _ ih=>exact fun hw=>.rop cs (him.turn ht ho hc) hl fun i x v hx hv=>ih i x v hx hv (sub hx (by simpa [am] using hw))
 | nils=>exact fun _=>.nils
 | roE a cap hc=>exact fun _=>.roE a cap hc
 | ro cs him hl _ hn hc' ih=>exact fun hw=>.ro cs (him.turn ht ho hc) hl (fun i x v hx hv=>ih i x v hx hv (sub hx (by simpa [am] using hw))) hn hc'
 | rwE a hc=>exact fun _=>.rwE a hc
 | rw h hn hc hs'=>exact fun _=>.rw h hn hc hs'
 | fsE a cap hc=>exact fun _=>.fsE a cap hc
 | @fs q cells n co β add cap c T fr h hh hfr hl _ hn hc' hz ih=>
  intro hw
  have hbr:β≠r:=by
   intro e;subst e
   rw [ho] at hh;simp at hh
   exact hc _ _ _ hh
  exact .fs h ((ht.other _ hbr).trans hh) hfr hl (fun i x v hx hv=>ih i x v hx hv (sub hx (hw.imp id fun h=>⟨h.1,by have:=h.2;simp only [am,Bool.and_eq_true] at this;exact this.2⟩))) hn hc' hz
 | fn f cs hl _ ih=>exact fun hw=>.fn f cs hl fun i x v hx hv=>ih i x v hx hv (sub hx (by simpa [am] using hw))
 | nilf=>exact fun _=>.nilf
 | raw v=>exact fun _=>.raw v
 | iface t v _ ih=>exact fun hw=>.iface t v (ih (by simpa [am] using hw))
 | nili=>exact fun _=>.nili
 | ev T o h=>exact fun _=>.ev T o fun a e=>⟨(h a e).na,by
   obtain ⟨c,t,q⟩:=(h a e).heap
   have:a.block≠r:=by
    intro e2;rw [e2,ho] at q;simp at q;exact hc _ _ _ q
   exact ⟨c,t,(ht.other _ this).trans q⟩⟩
 | xc g cs T fr v h0 hn hh=>exact fun _=>.xc g cs T fr v h0 hn (by
   have:g≠r:=by
    intro e2;rw [e2,ho] at hh;simp at hh;exact hc _ _ _ hh
   exact (ht.other _ this).trans hh)
 | agg cs hl _ ih=>exact fun hw=>.agg cs hl fun i x v hx hv=>ih i x v hx hv (sub hx (by simpa [am] using hw))
 | tup cs hl _ ih=>exact fun hw=>.tup cs hl fun i x v hx hv=>ih i x v hx hv (sub hx (by simpa [am] using hw))
 | yld l fn dfr tmps cs hn hl hz hcl htt _ ih=>
  intro hw
  have hlr:l≠r:=by
   intro e;subst e
   rw [ho] at hl;simp at hl;subst hl
   rcases hw with hw | ⟨h1,h2⟩
   ·exact hw _ rfl
   ·simp only [am,Bool.and_eq_true] at h2
    rw [h1] at h2;simp at h2
  exact .yld l fn dfr tmps cs hn ((ht.other l hlr).trans hl) hz hcl htt fun i x v hx hv=>ih i x v hx hv (sub hx (hw.imp id fun h=>⟨h.1,by have:=h.2;simp only [am,Bool.and_eq_true] at this;exact this.2⟩))
theorem BR.turn {w w':World} {σ:Sig} {A:Nat->Prop} {L:Lb} {r:Nat} {S:Nat->Bool} (h:BR w σ A L) (ht:Turn w w' r) {o:Obj} (ho:w.heap[r]?=some o) (hc:∀c T fr,o ≠ .cells c T fr)
  (hx:(∀q,o ≠ .loop q)\/(S ylab=false/\∀l cells,lget L l=some (some cells)->ag S cells=true)):BR w' σ A L:=by
 have hfam:∀q β add,σ.fam q β add->w'.heap[β]?=w.heap[β]?:=fun q β add k=>by
  obtain ⟨c,T,fr,e⟩:=h.fr.cel q β add k
  refine ht.other β fun e'=>?_
  subst e';rw [ho] at e;simp at e
  exact hc _ _ _ e
 refine ⟨fun l cells hl=>?_,h.inj,h.dom,fun β hA=>⟨by rw [ht.size];exact (h.lo β hA).1,(h.lo β hA).2⟩,h.fr.mono (by rw [ht.size];exact Nat.le_refl _) (fun _ _ _ k=>k) hfam fun _ _ _ _ k=>k⟩
 rcases h.all l cells hl with h1 | ⟨β,add,size,c,T,fr,hB⟩
 ·exact .inl h1
 ·have hbr:β≠r:=by
   intro e;subst e
   have:=hB.heap;rw [ho] at this;simp at this
   exact hc _ _ _ this
  refine .inr ⟨β,add,size,c,T,fr,⟨hB.sig,(ht.other β hbr).trans hB.heap,hB.hsz,hB.fits,fun i x hxi=>?_,hB.frs⟩⟩
  obtain ⟨v,h1,h2⟩:=hB.vals i x hxi
  exact ⟨v,h1,h2.turn ht ho hc (hx.imp id fun h=>⟨h.1,az (h.2 l cells hl) hxi⟩)⟩
theorem Grow.turn {K:Nat->Prop} {w w' w'':World} {σ σ':Sig} {L L':Lb} {r:Nat} (h:Grow K w σ L w' σ' L') (ht:Turn w' w'' r) (hr:w.heap.size<=r\/w''.heap[r]?=w.heap[r]?) (hfl:∀q β add,σ.fam q β add->β<w.heap.size):Grow K w σ L w'' σ' L':=
 ⟨by rw [ht.size];exact h.size,h.sig,fun β hb hn=>by
  obtain ⟨h1,h2⟩:=h.keep β hb hn
  refine ⟨h1,?_⟩
  by_cases e:β=r
  ·subst e
   rcases hr with hr | hr
   ·omega
   ·exact hr
  ·exact (ht.other β e).trans h2,⟨ht.out.1.trans h.out.1,ht.out.2.1.trans h.out.2.1,ht.out.2.2.trans h.out.2.2⟩,fun k q β add hq=>by
  obtain ⟨h1,h2⟩:=h.fam k q β add hq
  refine ⟨h1,?_⟩
  by_cases e:β=r
  ·subst e
   rcases hr with hr | hr
   ·have:=hfl q _ add hq;omega
   ·exact hr
  ·exact (ht.other β e).trans h2⟩
theorem Bm {E:Env} {f:FuncId} {fn:Func} {c:Code} {args:List PV} {L:Lb} {R:PV->Lb->Prop} (hf:E.P.funcs[f]?=some fn) (hb:fn.body=some c) (hn:args.length<=fn.ntmps)
  (h:AW (E.on none none) (fun l=>lget L l≠none) fn.ntmps c (Ends E.P fn R) (lQ args 0) L):dQ E f args L R:=by
 intro A w σ cargs hl hv hbr hg
 refine calls_of_wp hf hb (wpIn_wide.1 (wpIn_mono (h A w σ _ ⟨?_,hbr,hg,rfl⟩ ?_) ?_))
 ·intro t x hx
  obtain ⟨h1,h2⟩:=jU args 0 t x hx
  simp at h2
  have ht:t<cargs.length:=by rw [hl];exact (List.getElem?_eq_some_iff.1 h2).1
  exact ⟨cargs[t],by rw [Array.getElem?_append_left (by simpa using ht)];simp [ht],hv t x _ h2 (List.getElem?_eq_getElem ht)⟩
 ·simp;omega
 ·rintro e a' w' ⟨al',L',σ',⟨he,xs,hx,hR⟩,r',g',t'⟩
  obtain ⟨v,h1,h2⟩:=gl r' hx
  cases e with
  | normal=>exact ⟨r'.nodefer,v,h1,_,v,L',σ',rfl,hR,h2,r'.blocks,g'⟩
  | ret=>exact ⟨r'.nodefer,v,h1,_,v,L',σ',rfl,hR,h2,r'.blocks,g'⟩
  | _=>exact he.elim
theorem qY {E:Env} {f:FuncId} {fn:Func} {c:Code} {args:List PV} {L:Lb} {R:PV->Lb->Prop} (hf:E.P.funcs[f]?=some fn) (hb:fn.body=some c) (hn:args.length<=fn.ntmps)
  (h:∀b,AW (E.on none (some b)) (fun l=>lget L l≠none) fn.ntmps c (Ends E.P fn R) (lQ args 0) L):dQ E f args L R:=by
 intro A w σ cargs hl hv hbr hg
 refine (callsIn_wide (n:=0)).1 (callsIn_of_wp_marks hf hb trivial (wpIn_mono (h w.heap.size A w σ _ ⟨?_,hbr,hg,⟨Nat.le_refl _,by simp,.nil⟩⟩ ?_) ?_))
 ·intro t x hx
  obtain ⟨h1,h2⟩:=jU args 0 t x hx
  simp at h2
  have ht:t<cargs.length:=by rw [hl];exact (List.getElem?_eq_some_iff.1 h2).1
  exact ⟨cargs[t],by rw [Array.getElem?_append_left (by simpa using ht)];simp [ht],hv t x _ h2 (List.getElem?_eq_getElem ht)⟩
 ·simp;omega
 ·rintro e a' w' ⟨al',L',σ',⟨he,xs,hx,hR⟩,r',g',t'⟩
  have key:∀(ds:List Deferred) (w2:World),Rel (E.on none (some w.heap.size)) A w2 σ' al' L' { tmps:=a'.tmps,defers:=ds }->Grow (fun l=>lget L l≠none) w σ L w2 σ' L' ->
    LeavesInM Fence.wide 0 E.P fn a'.tmps (fun e w'=>∃r c L' σ',e = .returned c/\R r L'/\VR w' σ' (avo A σ' L') r c/\BR w' σ' A L'/\Grow (fun l=>lget L l≠none) w σ L w' σ' L') ds .returning w2:=by
   intro ds
   induction ds with
   | nil=>
    intro w2 r2 g2
    obtain ⟨v,h1,h2⟩:=gl r2 hx
    exact ⟨v,h1,_,v,L',σ',rfl,hR,h2,r2.blocks,g2⟩
   | cons d ds ih=>
    intro w2 r2 g2
    obtain ⟨m1,m2,m3⟩:=r2.nodefer
    obtain ⟨r,e1,e2,e3⟩:=m2 d (by simp)
    have hT:=Turn.put w2 r (.deferred none)
    have hnc:∀c T fr,Obj.deferred (some []) ≠ .cells c T fr:=fun _ _ _ h=>by cases h
    have hnl:∀q,Obj.deferred (some []) ≠ .loop q:=fun _ h=>by cases h
    refine ⟨by simp,.inl ⟨r,_,e1,run_takeDeferred e3,ih _ ⟨fun t x hx=>?_,r2.blocks.turn (S:=fun _=>true) hT e3 hnc (.inl hnl),fun g cells hgc=>(r2.globals g cells hgc).turn (S:=fun _=>true) hT e3 hnc (.inl hnl),?_⟩ (g2.turn hT (.inl e2) fun q β add k=>(hbr.fr.fam q β add k).1)⟩⟩
    ·obtain ⟨v,h1,h2⟩:=r2.tmps t x hx
     exact ⟨v,h1,h2.turn (S:=fun _=>true) hT e3 hnc (.inl hnl)⟩
    ·refine ⟨by simpa using m1,fun d2 hd2=>?_,(List.pairwise_cons.1 m3).2⟩
     obtain ⟨r2',f1,f2,f3⟩:=m2 d2 (List.mem_cons_of_mem _ hd2)
     have hne:r2'≠r:=by
      intro e
      exact (List.pairwise_cons.1 m3).1 d2 hd2 (by rw [e1,f1,e])
     exact ⟨r2',f1,f2,(World.putObj_heap_other hne).trans f3⟩
  have:=key a'.defers w' ⟨r'.tmps,r'.blocks,r'.globals,r'.nodefer⟩ g'
  cases e with
  | normal=>exact this
  | ret=>exact this
  | _=>exact he.elim
theorem dH {α:Type} (M L:List (Nat×α)) (l:Nat):lget (M++L) l=match lget M l with | some x=>some x | none=>lget L l:=by
 induction M with
 | nil=>rfl
 | cons p r ih=>
  obtain ⟨k,x⟩:=p
  simp only [List.cons_append,lget]
  split
  ·rfl
  ·exact ih
def hasL (L:Lb) (l:Nat):Bool:=(lget L l).isSome
def iY (x:PV):Bool:=am (fun _=>false) x
def cL (E:Env) (T:World->List Value->(Ending->World->Prop)->Prop) (args:List PV) (L:Lb) (R:PV->Lb->Prop):Prop:=
 ∀A w σ (cargs:List Value),cargs.length=args.length->(∀(i:Nat) (x:PV) (v:Value),args[i]?=some x->cargs[i]?=some v->VR w σ (avo A σ L) x v)->BR w σ A L ->
  (∀g cells,lget E.G g=some cells->VR w σ (avo A σ L) (.rop cells 0) (.pointer (some ⟨g,0,none⟩))) ->
  T w cargs fun e w'=>∃r c L' σ',e = .returned c/\R r L'/\VR w' σ' (avo A σ' L') r c/\BR w' σ' A L'/\Grow (fun l=>lget L l≠none) w σ L w' σ' L'
def Kst (L1:Lb):Prop:=lget L1 flab=none\/lget L1 de≠none
def Kx (L1:Lb):Nat->Prop:=fun l=>l=de->Kst L1
def noF (k:Nat):Bool:=k !=flab&&k !=de
theorem VR.monoN {w w':World} {σ σ':Sig} {av av':Nat->Prop} {x:PV} {v:Value} (h:VR w σ av x v) (hx:am noF x=true)
  (hσ:∀l y,l≠de->σ l=some y->σ' l=some y) (hs:w.heap.size<=w'.heap.size)
  (hw:∀β,β<w.heap.size->¬av β->¬av' β/\w'.heap[β]?=w.heap[β]?):VR w' σ' av' x v:=by
 have h0:VR w ⟨fun l=>if l=de then none else σ l,fun _ _ _=>False⟩ av x v:=h.restrict (S:=noF) (fun l hl=>by
  simp only [noF,Bool.and_eq_true,bne_iff_ne] at hl
  simp [hl.2]) (fun h=>by simp [noF] at h) (fun _ h=>h) hx
 refine h0.mono (fun l y hy=>?_) hs hw fun _ _ _ h=>h.elim
 by_cases e:l=de
 ·simp [e] at hy
 ·simp only [e,if_false] at hy;exact hσ l y e hy
theorem VR.growN {A:Nat->Prop} {w w':World} {σ σ':Sig} {L L':Lb} {K:Nat->Prop} {x:PV} {v:Value} (h:VR w σ (avo A σ L) x v) (hx:am noF x=true) (hg:Grow K w σ L w' σ' L') (hK:∀l,l≠de->K l):VR w' σ' (avo A σ' L') x v:=
 h.monoN hx (fun l y hl hy=>hg.sig l y (hK l hl) hy) hg.size fun β hb hn=>by
  have h1:¬A β:=fun h=>hn (.inl h)
  have h2:¬avOf σ L β:=fun h=>hn (.inr h)
  obtain ⟨h3,h4⟩:=hg.keep β hb h2
  exact ⟨fun h=>h.elim h1 h3,h4⟩
theorem Grow.strong {L1:Lb} {w w':World} {σ σ':Sig} {L L':Lb} (hg:Grow (Kx L1) w σ L w' σ' L') (hn:Kst L1):Grow top w σ L w' σ' L':=hg.weaken fun _ _ _=>hn
theorem cL.frameG {E:Env} {T:World->List Value->(Ending->World->Prop)->Prop} (hT:∀w cargs (R R':Ending->World->Prop),(∀e w',R e w'->R' e w')->T w cargs R->T w cargs R') {args:List PV} {L1 L:Lb} {R:PV->Lb->Prop} (h:cL E T args L1 R) (hsub:∀l y,lget L1 l=some y->lget L l=some y)
  (hw:ag (hasL L1) args=true) (hc:∀l cells,lget L1 l=some (some cells)->ag (hasL L1) cells=true)
  (hno:Kst L1\/∀l cells,lget L1 l=none->lget L l=some (some cells)->ag noF cells=true)
  {A:Nat->Prop} {w:World} {σ:Sig} {al:Al} {a:Act} (r:Rel E A w σ al L a) {cargs:List Value} (hl:cargs.length=args.length)
  (hv:∀(i:Nat) (x:PV) (v:Value),args[i]?=some x->cargs[i]?=some v->VR w σ (avo A σ L) x v) (hG:∀g cells,lget E.G g=some cells->ag (fun _=>false) cells=true) :
  T w cargs fun e w'=>∃x c L1',e = .returned c/\R x L1'/\((∀l,lget L1' l≠none->lget L1 l≠none\/lget L l=none)->(∀l,lget L1 l≠none->lget L1' l≠none) ->
   ∃σ',VR w' σ' (avo A σ' (L1'++L)) x c/\BR w' σ' A (L1'++L)/\Grow (Kx L1) w σ L w' σ' (L1'++L)):=by
 let σ1:Sig:=⟨fun l=>if hasL L1 l then σ l else none,fun q β add=>hasL L1 flab=true/\σ.fam q β add⟩
 let A1:Nat->Prop:=fun β=>A β\/(∃l cells a s,lget L1 l=none/\lget L l=some (some cells)/\σ l=some (β,a,s))\/(lget L1 flab=none/\vA σ β)
 have hS:∀l,hasL L1 l=true->σ1 l=σ l:=fun l h=>by simp [σ1,h]
 have hlab1:∀β,cd σ1 L1 β->cd σ L β:=by
  rintro β ⟨l,cells,a,s,h1,h2⟩
  refine ⟨l,cells,a,s,hsub _ _ h1,?_⟩
  rw [<-hS l (by simp [hasL,h1])];exact h2
 have hno':∀{q β add},lget L1 flab=none->σ1.fam q β add->False:=fun h k=>by have:=k.1;simp [hasL,h] at this
 have hav1:∀β,avo A1 σ1 L1 β<->avo A σ L β:=by
  intro β
  constructor
  ·rintro ((h | ⟨l,cells,a,s,h1,h2,h3⟩ | ⟨_,h⟩) | h | ⟨q,add,_,h⟩)
   ·exact .inl h
   ·exact .inr (.inl ⟨l,cells,a,s,h2,h3⟩)
   ·exact .inr (.inr h)
   ·exact .inr (.inl (hlab1 β h))
   ·exact .inr (.inr ⟨q,add,h⟩)
  ·rintro (h | ⟨l,cells,a,s,h1,h2⟩ | ⟨q,add,h⟩)
   ·exact .inl (.inl h)
   ·cases h3:lget L1 l with
    | none=>exact .inl (.inr (.inl ⟨l,cells,a,s,h3,h1,h2⟩))
    | some y=>
     have:=hsub _ _ h3
     rw [h1] at this;simp at this;subst this
     exact .inr (.inl ⟨l,cells,a,s,h3,by rw [hS l (by simp [hasL,h3])];exact h2⟩)
   ·cases h3:lget L1 flab with
    | none=>exact .inl (.inr (.inr ⟨h3,q,add,h⟩))
    | some y=>exact .inr (.inr ⟨q,add,by simp [hasL,h3],h⟩)
 have hdown:∀{x v},VR w σ (avo A σ L) x v->am (hasL L1) x=true->VR w σ1 (avo A1 σ1 L1) x v:=fun h hx=>h.restrict hS (fun hf q β add k=>⟨hf,k⟩) (fun β hn hm=>hn ((hav1 β).1 hm)) hx
 have hb1:BR w σ1 A1 L1:=by
  refine ⟨?_,?_,?_,?_,r.blocks.fr.mono (Nat.le_refl _) (fun _ _ _ k=>k.2) (fun _ _ _ _=>rfl) fun _ β _ _=>hlab1 β⟩
  ·intro l cells hl1
   have hh:hasL L1 l=true:=by simp [hasL,hl1]
   rcases r.blocks.all l cells (hsub _ _ hl1) with ⟨h1,h2⟩ | ⟨β,add,size,c,T,fr,hB⟩
   ·exact .inl ⟨by rw [hS l hh];exact h1,h2⟩
   ·refine .inr ⟨β,add,size,c,T,fr,⟨by rw [hS l hh];exact hB.sig,hB.heap,hB.hsz,hB.fits,?_,hB.frs⟩⟩
    intro i x hx
    obtain ⟨v,h1,h2⟩:=hB.vals i x hx
    exact ⟨v,h1,hdown h2 (az (hc l cells hl1) hx)⟩
  ·intro l l' c c' β a s a' s' h1 h2 h3 h4
   rw [hS l (by simp [hasL,h1])] at h3
   rw [hS l' (by simp [hasL,h2])] at h4
   exact r.blocks.inj l l' c c' β a s a' s' (hsub _ _ h1) (hsub _ _ h2) h3 h4
  ·intro l x h1
   by_cases hh:hasL L1 l=true
   ·simp only [hasL,Option.isSome_iff_ne_none] at hh;exact hh
   ·simp [σ1,hh] at h1
  ·rintro β (h | ⟨l,cells,a,s,h1,h2,h3⟩ | ⟨h0,q,add,h⟩)
   ·obtain ⟨h4,h5⟩:=r.blocks.lo β h
    refine ⟨h4,?_⟩
    rintro (h | ⟨q,add,_,h⟩)
    ·exact h5 (.inl (hlab1 β h))
    ·exact h5 (.inr ⟨q,add,h⟩)
   ·refine ⟨r.blocks.lt (.inl ⟨l,cells,a,s,h2,h3⟩),?_⟩
    rintro (⟨l',cells',a',s',h4,h5⟩ | ⟨q,add,_,h⟩)
    ·rw [hS l' (by simp [hasL,h4])] at h5
     have:=r.blocks.inj l l' cells cells' β a s a' s' h2 (hsub _ _ h4) h3 h5
     subst this
     rw [h1] at h4;simp at h4
    ·exact (r.blocks.fr.fam q β add h).2 ⟨l,cells,a,s,h2,h3⟩
   ·refine ⟨(r.blocks.fr.fam q β add h).1,?_⟩
    rintro (h' | ⟨q',add',h'⟩)
    ·exact (r.blocks.fr.fam q β add h).2 (hlab1 β h')
    ·exact hno' h0 h'
 refine hT w cargs _ _ ?_ (h A1 w σ1 cargs hl (fun i x v hx hv'=>hdown (hv i x v hx hv') (az hw hx)) hb1 (fun g cells hg=>(r.globals g cells hg).restrict hS (fun hf q β add k=>⟨hf,k⟩) (fun β hn hm=>hn ((hav1 β).1 hm)) ?_))
 rotate_left
 ·have h0:=hG g cells hg
  have mono:∀(x:PV),am (fun _=>false) x=true->am (hasL L1) x=true:=by
   intro x
   apply PV.rec (motive_1:=fun x=>am (fun _=>false) x=true->am (hasL L1) x=true) (motive_2:=fun xs=>ag (fun _=>false) xs=true->ag (hasL L1) xs=true)
   all_goals intros
   all_goals simp_all [am,ag]
  rw [ct] at h0
  simp only [am,ct]
  rw [List.all_eq_true] at h0 ⊢
  exact fun x hx=>mono x (h0 x hx)
 ·rintro e w' ⟨x,c,L1',σ1',rfl,hR,hx,hb',hg'⟩
  refine ⟨x,c,L1',rfl,hR,fun hnew hkeep=>?_⟩
  let σ':Sig:=⟨fun l=>match lget L1' l with | some _=>σ1' l | none=>σ l,fun q β add=>σ1'.fam q β add\/(lget L1 flab=none/\σ.fam q β add)⟩
  have hσ':∀l y,lget L1' l=some y->σ' l=σ1' l:=fun l y h=>by simp [σ',h]
  have hσn:∀l,lget L1' l=none->σ' l=σ l:=fun l h=>by simp [σ',h]
  have hsig:∀l y,σ l=some y->σ' l=some y:=by
   intro l y hy
   cases h1:lget L1' l with
   | none=>rw [hσn l h1];exact hy
   | some z=>
    rw [hσ' l z h1]
    rcases hnew l (by rw [h1];simp) with h2 | h2
    ·exact hg'.sig l y h2 (by rw [hS l (by simpa [hasL,Option.isSome_iff_ne_none] using h2)];exact hy)
    ·exact absurd h2 (r.blocks.dom l y hy)
  have hlav':∀β,cd σ' (L1'++L) β->cd σ1' L1' β\/∃l cells a s,lget L1 l=none/\lget L l=some (some cells)/\σ l=some (β,a,s):=by
   rintro β ⟨l,cells,a,s,h1,h2⟩
   rw [dH] at h1
   cases h3:lget L1' l with
   | some z=>
    rw [h3] at h1;simp at h1
    rw [hσ' l z h3] at h2
    exact .inl ⟨l,cells,a,s,by rw [h3,h1],h2⟩
   | none=>
    rw [h3] at h1;simp at h1
    rw [hσn l h3] at h2
    refine .inr ⟨l,cells,a,s,?_,h1,h2⟩
    cases h4:lget L1 l with
    | none=>rfl
    | some z=>exact absurd h3 (hkeep l (by rw [h4];simp))
  have hav':∀β,avOf σ' (L1'++L) β->avOf σ1' L1' β\/(∃l cells a s,lget L1 l=none/\lget L l=some (some cells)/\σ l=some (β,a,s))\/(lget L1 flab=none/\vA σ β):=by
   rintro β (h | ⟨q,add,h | ⟨h0,h⟩⟩)
   ·rcases hlav' β h with h | h
    ·exact .inl (.inl h)
    ·exact .inr (.inl h)
   ·exact .inl (.inr ⟨q,add,h⟩)
   ·exact .inr (.inr ⟨h0,q,add,h⟩)
  have hnot1:∀{β},β<w.heap.size->¬avOf σ L β->¬avOf σ1 L1 β:=by
   rintro β hb hn (h | ⟨q,add,_,h⟩)
   ·exact hn (.inl (hlab1 β h))
   ·exact hn (.inr ⟨q,add,h⟩)
  have hfk:∀{q β add},lget L1 flab=none->σ.fam q β add->w'.heap[β]?=w.heap[β]?/\¬avOf σ1' L1' β:=by
   intro q β add h0 h
   have:=hg'.keep β (r.blocks.fr.fam q β add h).1 (by
    rintro (h' | ⟨q',add',h'⟩)
    ·exact (r.blocks.fr.fam q β add h).2 (hlab1 β h')
    ·exact hno' h0 h')
   exact ⟨this.2,this.1⟩
  have hg:Grow (Kx L1) w σ L w' σ' (L1'++L):=by
   refine ⟨hg'.size,fun l y _ hy=>hsig l y hy,fun β hb hn=>?_,hg'.out,fun k q β add h=>?_⟩
   rotate_left
   ·cases h0:lget L1 flab with
    | none=>exact ⟨.inr ⟨h0,h⟩,(hfk h0 h).1⟩
    | some y=>
     rcases k rfl with k | k
     ·rw [h0] at k;simp at k
     ·obtain ⟨h1,h2⟩:=hg'.fam k q β add ⟨by simp [hasL,h0],h⟩
      exact ⟨.inl h1,h2⟩
   obtain ⟨h2,h3⟩:=hg'.keep β hb (hnot1 hb hn)
   refine ⟨fun ha=>?_,h3⟩
   rcases hav' β ha with h | ⟨l,cells,a,s,_,h5,h6⟩ | ⟨_,h⟩
   ·exact h2 h
   ·exact hn (.inl ⟨l,cells,a,s,h5,h6⟩)
   ·exact hn (.inr h)
  have hup:∀{x v},VR w' σ1' (avo A1 σ1' L1') x v->VR w' σ' (avo A σ' (L1'++L)) x v:=by
   intro x v h
   refine h.mono (fun l y hy=>?_) (Nat.le_refl _) (fun β _ hn=>⟨fun ha=>?_,rfl⟩) fun q β add k=>⟨.inl k,rfl⟩
   ·have:=hb'.dom l y hy
    cases h1:lget L1' l with
    | none=>exact absurd h1 this
    | some z=>rw [hσ' l z h1];exact hy
   ·rcases ha with ha | ha
    ·exact hn (.inl (.inl ha))
    ·rcases hav' β ha with h | h
     ·exact hn (.inr h)
     ·exact hn (.inl (.inr h))
  refine ⟨σ',hup hx,⟨?_,?_,?_,?_,?_⟩,hg⟩
  ·intro l cells hl'
   rw [dH] at hl'
   cases h3:lget L1' l with
   | some z=>
    rw [h3] at hl';simp at hl';subst hl'
    rcases hb'.all l cells h3 with ⟨h1,h2⟩ | ⟨β,add,size,cc,T,fr,hB⟩
    ·exact .inl ⟨by rw [hσ' l _ h3];exact h1,h2⟩
    ·exact .inr ⟨β,add,size,cc,T,fr,⟨by rw [hσ' l _ h3];exact hB.sig,hB.heap,hB.hsz,hB.fits,fun i x hx=>let ⟨v,h1,h2⟩:=hB.vals i x hx;⟨v,h1,hup h2⟩,hB.frs⟩⟩
   | none=>
    rw [h3] at hl';simp at hl'
    have hn1:lget L1 l=none:=by
     cases h4:lget L1 l with
     | none=>rfl
     | some z=>exact absurd h3 (hkeep l (by rw [h4];simp))
    rcases r.blocks.all l cells hl' with ⟨h1,h2⟩ | ⟨β,add,size,cc,T,fr,hB⟩
    ·exact .inl ⟨by rw [hσn l h3];exact h1,h2⟩
    ·have hnb:¬avOf σ1 L1 β:=by
      rintro (⟨l',cells',a',s',h4,h5⟩ | ⟨q,add',_,h⟩)
      ·rw [hS l' (by simp [hasL,h4])] at h5
       have:=r.blocks.inj l l' cells cells' β _ _ a' s' hl' (hsub _ _ h4) hB.sig h5
       subst this
       rw [hn1] at h4;simp at h4
      ·exact (r.blocks.fr.fam q β add' h).2 ⟨l,cells,_,_,hl',hB.sig⟩
     obtain ⟨h6,h7⟩:=hg'.keep β (r.blocks.lt (.inl ⟨l,cells,_,_,hl',hB.sig⟩)) hnb
     refine .inr ⟨β,add,size,cc,T,fr,⟨by rw [hσn l h3];exact hB.sig,by rw [h7];exact hB.heap,hB.hsz,hB.fits,fun i x hx=>?_,hB.frs⟩⟩
     obtain ⟨v,h1,h2⟩:=hB.vals i x hx
     refine ⟨v,h1,?_⟩
     rcases hno with hno | hno
     ·exact h2.grow (hg.strong hno)
     ·exact h2.growN (az (hno l cells hn1 hl') hx) hg fun l h e=>absurd e h
  ·have sep:∀l l' (c c':List PV) β a s a' s',lget L1' l=some (some c)->lget L1' l'=none->lget L l'=some (some c')->σ1' l=some (β,a,s)->σ l'=some (β,a',s')->False:=by
    intro l l' c c' β a s a' s' h1 h2 h3 h4 h5
    have hn1:lget L1 l'=none:=by
     cases h6:lget L1 l' with
     | none=>rfl
     | some z=>exact absurd h2 (hkeep l' (by rw [h6];simp))
    have hnb:¬avOf σ1 L1 β:=by
     rintro (⟨k,cells',a2,s2,h7,h8⟩ | ⟨q,add',_,h⟩)
     ·rw [hS k (by simp [hasL,h7])] at h8
      have:=r.blocks.inj l' k c' cells' β _ _ a2 s2 h3 (hsub _ _ h7) h5 h8
      subst this
      rw [hn1] at h7;simp at h7
     ·exact (r.blocks.fr.fam q β add' h).2 ⟨l',c',_,_,h3,h5⟩
    exact (hg'.keep β (r.blocks.lt (.inl ⟨l',c',_,_,h3,h5⟩)) hnb).1 (.inl ⟨l,c,a,s,h1,h4⟩)
   intro l l' c c' β a s a' s' h1 h2 h3 h4
   rw [dH] at h1 h2
   cases h5:lget L1' l with
   | some z=>
    rw [h5] at h1;simp at h1;subst h1
    rw [hσ' l _ h5] at h3
    cases h6:lget L1' l' with
    | some z'=>
     rw [h6] at h2;simp at h2;subst h2
     rw [hσ' l' _ h6] at h4
     exact hb'.inj l l' c c' β a s a' s' h5 h6 h3 h4
    | none=>
     rw [h6] at h2;simp at h2
     rw [hσn l' h6] at h4
     exact (sep l l' c c' β a s a' s' h5 h6 h2 h3 h4).elim
   | none=>
    rw [h5] at h1;simp at h1
    rw [hσn l h5] at h3
    cases h6:lget L1' l' with
    | some z'=>
     rw [h6] at h2;simp at h2;subst h2
     rw [hσ' l' _ h6] at h4
     exact (sep l' l c' c β a' s' a s h6 h5 h1 h4 h3).elim
    | none=>
     rw [h6] at h2;simp at h2
     rw [hσn l' h6] at h4
     exact r.blocks.inj l l' c c' β a s a' s' h1 h2 h3 h4
  ·intro l y hy
   rw [dH]
   cases h1:lget L1' l with
   | some z=>simp
   | none=>rw [hσn l h1] at hy;exact r.blocks.dom l y hy
  ·intro β hA
   obtain ⟨h1,h2⟩:=r.blocks.lo β hA
   refine ⟨Nat.lt_of_lt_of_le h1 hg'.size,fun ha=>?_⟩
   rcases hav' β ha with h | ⟨l,cells,a,s,_,h5,h6⟩ | ⟨_,h⟩
   ·exact (hb'.lo β (.inl hA)).2 h
   ·exact h2 (.inl ⟨l,cells,a,s,h5,h6⟩)
   ·exact h2 (.inr h)
  ·refine ⟨?_,?_,?_⟩
   ·rintro q β add (h | ⟨h0,h⟩)
    ·obtain ⟨h1,h2⟩:=hb'.fr.fam q β add h
     refine ⟨h1,fun ha=>?_⟩
     rcases hlav' β ha with h' | h'
     ·exact h2 h'
     ·exact (hb'.lo β (.inr (.inl h'))).2 (.inr ⟨q,add,h⟩)
    ·obtain ⟨h1,h2⟩:=r.blocks.fr.fam q β add h
     refine ⟨Nat.lt_of_lt_of_le h1 hg'.size,fun ha=>?_⟩
     rcases hlav' β ha with h' | ⟨l,cells,a,s,_,h5,h6⟩
     ·exact (hfk h0 h).2 (.inl h')
     ·exact h2 ⟨l,cells,a,s,h5,h6⟩
   ·rintro q β add (h | ⟨h0,h⟩)
    ·exact hb'.fr.cel q β add h
    ·obtain ⟨c,T,fr,e⟩:=r.blocks.fr.cel q β add h
     exact ⟨c,T,fr,(hfk h0 h).1.trans e⟩
   ·rintro q q' β add add' (h | ⟨h0,h⟩) (h' | ⟨h0',h'⟩)
    ·exact hb'.fr.one _ _ _ _ _ h h'
    ·exact ((hfk h0' h').2 (.inr ⟨q,add,h⟩)).elim
    ·exact ((hfk h0 h).2 (.inr ⟨q',add',h'⟩)).elim
    ·exact r.blocks.fr.one _ _ _ _ _ h h'
end Go.SH
namespace Go.SH
section
variable {Loc Val:Type} [DecidableEq Loc]
def eq:List (Loc×Val)->Loc->Option Val
 | [],_=>none
 | (k,v)::r,l=>if k=l then some v else eq r l
variable (W:Nat->List (Loc×Val))
def exm (m:Loc->Val) (i:Nat):Loc->Val:=fun l=>match eq (W i) l with | some v=>v | none=>m l
def runm (m0:Loc->Val) (S:Nat->Bool):Nat->Loc->Val
 | 0=>m0
 | k+1=>if S k then exm W (runm m0 S k) k else runm m0 S k
theorem nV {m0:Loc->Val} {S S':Nat->Bool} {l:Loc}:∀(k:Nat),(∀i,i<k->(eq (W i) l).isSome=true->S i=S' i)->runm W m0 S k l=runm W m0 S' k l
 | 0,_=>rfl
 | k+1,h=>by
  have ih:=nV (m0:=m0) k fun i hi hw=>h i (by omega) hw
  simp only [runm]
  cases hw:eq (W k) l with
  | none=>
   by_cases h1:S k=true <;> by_cases h2:S' k=true <;> simp [h1,h2,exm,hw,ih]
  | some v=>
   have:=h k (by omega) (by rw [hw];rfl)
   by_cases h1:S k=true
   ·have h2:S' k=true:=by rw [<-this];exact h1
    simp [h1,h2,exm,hw]
   ·have h2:¬S' k=true:=by rw [<-this];exact h1
    simp [h1,h2,ih]
theorem p9 {m0:Loc->Val} {S:Nat->Bool} {l:Loc} {i:Nat}:∀(k:Nat),i<=k->(∀j,i<=j->j<k->(eq (W j) l).isSome=true->S j=false)->runm W m0 S k l=runm W m0 S i l
 | 0,hi,_=>by have:i=0:=by omega
              subst this;rfl
 | k+1,hi,h=>by
  by_cases he:i=k+1
  ·subst he;rfl
  ·have ih:=p9 (m0:=m0) k (by omega) fun j h1 h2 hw=>h j h1 (by omega) hw
   simp only [runm]
   cases hw:eq (W k) l with
   | none=>
    by_cases h1:S k=true
    ·simp [h1,exm,hw,ih]
    ·simp [h1,ih]
   | some v=>
    have:=h k (by omega) (by omega) (by rw [hw];rfl)
    simp [this,ih]
end
inductive Vl where
 | s (x:Option PV)
 | b (y:Option (Option (List PV)))
abbrev Lc:=Nat⊕Nat
def cx (al:Al) (L:Lb):Lc->Vl
 | .inl t=>.s (lget al t)
 | .inr l=>.b (lget L l)
structure Fp where
 ra:Al
 rl:Lb
 x:PV
 wl:Lb
 run:Bool:=true
 gd:Bool:=false
def pE (ops:Array Oper) (o:Oper):Option Nat:=match o.guard with
 | some (j,_)=>(ops[j]?).bind (·.dst)
 | none=>none
def gval (o:Oper) (run gd:Bool):PV:=match o.guard with
 | some (_,want)=>if gd then .dead else .bool (if run then want else !want)
 | none=>.dead
def fnew (f:Fp):List Nat:=(f.wl.filter fun p=>(lget f.rl p.1).isNone).map (·.1)
def fpR (ops:Array Oper) (o:Oper) (f:Fp):List (Lc×Vl):=
 (match pE ops o with | some d=>[(Sum.inl d,Vl.s (some (gval o f.run f.gd)))] | none=>[]) ++
 (if f.run then f.ra.map (fun p=>(Sum.inl p.1,Vl.s (some p.2)))++f.rl.map (fun p=>(Sum.inr p.1,Vl.b (some p.2)))++(fnew f).map (fun l=>(Sum.inr l,Vl.b none)) else [])
def fpW (o:Oper) (f:Fp):List (Lc×Vl):=
 (match o.dst with | some d=>[(Sum.inl d,Vl.s (some (if f.run then f.x else .dead)))] | none=>[]) ++
 (if f.run then f.wl.map (fun p=>(Sum.inr p.1,Vl.b (some p.2))) else [])
def AA (ops:Array Oper) (o:Oper) (f:Fp):Bool:=match o.guard with
 | some _=>(pE ops o).isSome&&(!f.gd || !f.run)
 | none=>f.run
def iK (o:Oper):List Nat:=(o.after.toList.filter (Region.binds .any)).map (·.on)
def befs (ops:Array Oper):Nat->Nat->List Nat
 | 0,_=>[]
 | k+1,j=>match ops[j]? with
  | some o=>iK o++(iK o).flatMap (befs ops k)
  | none=>[]
def vD (a b:List Lc):Bool:=a.any fun x=>b.any fun y=>decide (x=y)
def Hk (ops:Array Oper) (fs:List Fp):Bool:=
 let n:=ops.size
 let Rl:=(List.range n).map fun i=>match ops[i]?,fs[i]? with | some o,some f=>(fpR ops o f).map (·.1) | _,_=>[]
 let Wl:=(List.range n).map fun i=>match ops[i]?,fs[i]? with | some o,some f=>(fpW o f).map (·.1) | _,_=>[]
 (List.range n).all fun j=>(List.range j).all fun i=>
  (befs ops n j).contains i || !(vD (Wl.getD i []) (Rl.getD j []++Wl.getD j [])||vD (Wl.getD j []) (Rl.getD i []))
def wx (ops:Array Oper):Bool:=(List.range ops.size).all fun j=>match ops[j]? with
 | some o=>(iK o).all fun i=>decide (i<j)
 | none=>true
def ms (o:Oper) (f:Fp) (al:Al):Al:=oset o.dst (if f.run then f.x else .dead) al
def qP (f:Fp) (L:Lb):Lb:=if f.run then lupd L f.wl else L
def kp (ops:Array Oper):List Oper->List Fp->Al->Lb->List (List Vl)
 | o::os,f::fs,al,L=>(fpR ops o f).map (fun p=>cx al L p.1)::kp ops os fs (ms o f al) (qP f L)
 | _,_,_,_=>[]
def ko (ops:Array Oper):List Oper->List Fp->List (List Vl)
 | o::os,f::fs=>(fpR ops o f).map (·.2)::ko ops os fs
 | _,_=>[]
def nM:List Oper->List Fp->Al->Al
 | o::os,f::fs,al=>nM os fs (ms o f al)
 | _,_,al=>al
def so:List Oper->List Fp->Lb->Lb
 | _::os,f::fs,L=>so os fs (qP f L)
 | _,_,L=>L
def rE (wl:Lb):Bool:=match wl with
 | []=>true
 | (k,_)::r=>(lget r k).isNone&&rE r
theorem zn:∀(wl:Lb) (L:Lb) (l:Nat),rE wl=true->lget (lupd L wl) l=match lget wl l with | some y=>some y | none=>lget L l
 | [],L,l,_=>rfl
 | (k,y)::r,L,l,h=>by
  simp [rE] at h
  show lget (lupd (lset L k y) r) l=_
  rw [zn r _ l h.2]
  simp only [lget,ao]
  by_cases hk:k=l
  ·subst hk
   rw [h.1];simp
  ·simp [hk]
theorem A8 {Loc Val:Type} [DecidableEq Loc] (a b:List (Loc×Val)) (l:Loc):eq (a++b) l=match eq a l with | some v=>some v | none=>eq b l:=by
 induction a with
 | nil=>rfl
 | cons p r ih=>
  obtain ⟨k,v⟩:=p
  simp only [List.cons_append,eq]
  split
  ·rfl
  ·exact ih
theorem zR (wl:Lb) (t:Nat):eq (wl.map fun p=>((Sum.inr p.1:Lc),Vl.b (some p.2))) (.inl t)=none:=by
 induction wl with
 | nil=>rfl
 | cons p r ih=>simp [eq,ih]
theorem F4 (wl:Lb) (l:Nat):eq (wl.map fun p=>((Sum.inr p.1:Lc),Vl.b (some p.2))) (.inr l)=(lget wl l).map fun y=>Vl.b (some y):=by
 induction wl with
 | nil=>rfl
 | cons p r ih=>
  obtain ⟨k,y⟩:=p
  simp only [List.map_cons,eq,lget,ih]
  by_cases h:k=l <;> simp [h]
theorem xk (o:Oper) (f:Fp) (al:Al) (L:Lb) (hnd:rE f.wl=true) (l:Lc) :
  cx (ms o f al) (qP f L) l=match eq (fpW o f) l with | some v=>v | none=>cx al L l:=by
 unfold fpW ms qP
 rw [A8]
 cases l with
 | inl t=>
  cases hd:o.dst with
  | none=>
   by_cases hr:f.run=true
   ·simp [hr,eq,zR,oset,cx]
   ·simp [hr,eq,oset,cx]
  | some d=>
   by_cases ht:d=t
   ·subst ht;by_cases hr:f.run=true <;> simp [hr,eq,oset,cx,lget]
   ·by_cases hr:f.run=true
    ·simp [hr,eq,zR,oset,cx,lget,ht]
    ·simp [hr,eq,oset,cx,lget,ht]
 | inr l=>
  have hn:eq (match o.dst with | some d=>[((Sum.inl d:Lc),Vl.s (some (if f.run then f.x else .dead)))] | none=>[]) (.inr l)=none:=by
   cases o.dst <;> simp [eq]
  rw [hn]
  by_cases hr:f.run=true
  ·simp only [hr,if_true,F4,cx]
   rw [zn _ _ _ hnd]
   cases lget f.wl l <;> rfl
  ·simp [hr,eq,cx]
theorem Bq (ops:Array Oper) (W:Nat->List (Lc×Vl)):∀(os:List Oper) (fs:List Fp) (al:Al) (L:Lb) (k:Nat) (m:Lc->Vl),(∀j o f,os[j]?=some o->fs[j]?=some f->W (k+j)=fpW o f/\rE f.wl=true) ->
  os.length=fs.length->(∀l,cx al L l=runm W m (fun _=>true) k l)->kp ops os fs al L=ko ops os fs ->
  (∀j o f,os[j]?=some o->fs[j]?=some f->∀p∈fpR ops o f,runm W m (fun _=>true) (k+j) p.1=p.2)/\∀l,cx (nM os fs al) (so os fs L) l=runm W m (fun _=>true) (k+os.length) l
 | [],[],al,L,k,m,_,_,hm,_=>⟨by simp,hm⟩
 | o::os,f::fs,al,L,k,m,hW,hl,hm,ht=>by
  simp only [kp,ko,List.cons.injEq] at ht
  obtain ⟨h1,h2⟩:=ht
  obtain ⟨w1,w2⟩:=hW 0 o f rfl rfl
  have hm':∀l,cx (ms o f al) (qP f L) l=runm W m (fun _=>true) (k+1) l:=by
   intro l
   rw [xk o f al L w2]
   simp only [runm,if_true,exm]
   rw [Nat.add_zero] at w1
   rw [w1,hm l]
   cases eq (fpW o f) l <;> rfl
  obtain ⟨i1,i2⟩:=Bq ops W os fs (ms o f al) (qP f L) (k+1) m (fun j o' f' ho hf=>by
   have:=hW (j+1) o' f' (by simpa using ho) (by simpa using hf)
   rw [show k+1+j=k+(j+1) from by omega];exact this) (by simpa using hl) hm' h2
  refine ⟨fun j o' f' ho hf p hp=>?_,fun l=>?_⟩
  ·cases j with
   | zero=>
    simp at ho hf;subst ho;subst hf
    have:((fpR ops o f).map fun p=>cx al L p.1)=(fpR ops o f).map (·.2):=h1
    have hp2:=List.map_inj_left.1 this p hp
    rw [Nat.add_zero,<-hm];exact hp2
   | succ j=>
    have:=i1 j o' f' (by simpa using ho) (by simpa using hf) p hp
    rw [show k+(j+1)=k+1+j from by omega];exact this
  ·have:=i2 l
   simp only [nM,so,List.length_cons]
   rw [show k+(os.length+1)=k+1+os.length from by omega];exact this
theorem Rel.drew {E:Env} {A:Nat->Prop} {w:World} {σ:Sig} {al:Al} {L:Lb} {a:Act} (r:Rel E A w σ al L a):Rel E A w.drew σ al L a/\Grow top w σ L w.drew σ L:=by
 have hg:Grow top w σ L w.drew σ L:=⟨Nat.le_refl _,fun _ _ _ h=>h,fun _ _ hn=>⟨hn,rfl⟩,⟨rfl,rfl,rfl⟩,fun _ _ _ _ h=>⟨h,rfl⟩⟩
 refine ⟨r.grow ⟨?_,r.blocks.inj,r.blocks.dom,r.blocks.lo,r.blocks.fr.mono (Nat.le_refl _) (fun _ _ _ k=>k) (fun _ _ _ _=>rfl) fun _ _ _ _ k=>k⟩ hg,hg⟩
 intro l cells hl
 rcases r.blocks.all l cells hl with h | ⟨β,add,size,c,T,fr,hB⟩
 ·exact .inl h
 ·exact .inr ⟨β,add,size,c,T,fr,⟨hB.sig,hB.heap,hB.hsz,hB.fits,fun i x hx=>let ⟨v,h1,h2⟩:=hB.vals i x hx;⟨v,h1,h2.grow hg⟩,hB.frs⟩⟩
theorem ai {α:Type} {L:List (Nat×α)} {l:Nat} {y:α} (h:lget L l=some y):(l,y)∈L:=by
 induction L with
 | nil=>simp [lget] at h
 | cons p r ih=>
  obtain ⟨k,x⟩:=p
  simp only [lget] at h
  split at h
  ·rename_i hk;subst hk;simp at h;subst h;simp
  ·exact List.mem_cons_of_mem _ (ih h)
theorem mm {ops:Array Oper} {S:Nat->Bool} (hS:∀j o,ops[j]?=some o->S j=true->∀i∈iK o,S i=true):∀(k j i:Nat),S j=true->i∈befs ops k j->S i=true
 | 0,j,i,_,h=>by simp [befs] at h
 | k+1,j,i,hj,h=>by
  simp only [befs] at h
  split at h
  ·rename_i o ho
   rw [List.mem_append,List.mem_flatMap] at h
   rcases h with h | ⟨x,h1,h2⟩
   ·exact hS j o ho hj i h
   ·exact mm hS k x i (hS j o ho hj x h1) h2
  ·simp at h
theorem lr {Loc Val:Type} [DecidableEq Loc] {a:List (Loc×Val)} {l:Loc} (h:(eq a l).isSome=true):l∈a.map (·.1):=by
 induction a with
 | nil=>simp [eq] at h
 | cons p r ih=>
  obtain ⟨k,v⟩:=p
  simp only [eq] at h
  by_cases hk:k=l
  ·simp [hk]
  ·rw [if_neg hk] at h;simp only [List.map_cons,List.mem_cons];exact .inr (ih h)
theorem Cy {a b:List Lc} {l:Lc} (h1:l∈a) (h2:l∈b):vD a b=true:=by
 simp only [vD,List.any_eq_true]
 exact ⟨l,h1,l,h2,by simp⟩
def notD (o:Op):Bool:=match o with | .defer _=>false | _=>true
theorem IV {o:Op} (h:notD o=true):∀c,o ≠ .defer c:=by rintro c rfl;simp [notD] at h
theorem gM {ro:Option Nat} {m:Nat} {P:Program} {ops:Array Oper} {Q:Exit->Act->World->Prop} (hnd:∀(i:Nat) (o:Oper),ops[i]?=some o->notD o.op=true) (hQ:¬LetsOut Q) :
  ∀(l:List Nat) (a:Act) (w:World),wpOps P ops Q l a w->wpOpsIn (fen ro) m P ops Q l a w
 | [],a,w,h=>h
 | i::r,a,w,h=>by
  simp only [wpOps] at h
  simp only [wpOpsIn]
  cases ho:ops[i]? with
  | none=>simp only [ho] at h;exact gM hnd hQ r a w h
  | some o=>
   simp only [ho] at h
   simp only
   split
   ·rename_i hw
    rw [if_pos hw] at h
    rcases h with h | ⟨_,h⟩
    ·exact gL (qx (IV (hnd i o ho)) h) (fun a w=>gM hnd hQ r a w) fun _ _ _ h=>h
    ·exact absurd h hQ
   ·rename_i hw
    rw [if_neg hw] at h
    exact ⟨fun _ _=>trivial,gM hnd hQ r _ _ h⟩
theorem vM {ro:Option Nat} {m:Nat} {P:Program} {ops:Array Oper} {Q:Exit->Act->World->Prop} {id:Nat} {a:Act} {w:World} (hnd:∀(i:Nat) (o:Oper),ops[i]?=some o->notD o.op=true) (hQ:¬LetsOut Q) (hm:P.follows .mixedOrders=true)
  (h:wpAny P .any ops Q ops.size (Array.replicate ops.size false) a { w with drawn:=w.drawn+1 }):(Code.region id ops true).wpIn (fen ro) m P Q a w:=
 wpIn_region_draw fun t=>by
  refine gM hnd hQ _ _ _ ?_
  simp only [Region.schedule,hm,Bool.true_or,if_true]
  exact wpAny_sound ops.size t _ a _ h
section
variable {E:Env} {K:Nat->Prop} {n:Nat} {al:Al} {L:Lb} {Q:Exit->Al->Lb->Prop}
theorem JG {id:Nat} {ops:Array Oper} (hm:E.P.follows .mixedOrders=true) (fs:List Fp) (hlen:fs.length=ops.size)
  (hop:∀(i:Nat) (o:Oper) (f:Fp),ops[i]?=some o->fs[i]?=some f->f.run=true->AOp E o f.ra f.rl f.x f.wl)
  (hgo:∀(i:Nat) (o:Oper) (f:Fp),ops[i]?=some o->fs[i]?=some f->AA ops o f=true/\rE f.wl=true/\∀t,o.dst=some t->t<n)
  (hedge:wx ops=true) (hind:Hk ops fs=true) (htext:kp ops ops.toList fs al L=ko ops ops.toList fs)
  (hQ:∀al' L',(∀t,lget al' t=lget (nM ops.toList fs al) t)->(∀l,lget L' l=lget (so ops.toList fs L) l)->Q .normal al' L')
  (hnd:∀(i:Nat) (o:Oper),ops[i]?=some o->notD o.op=true) (hQo:∀al L,¬Q .outgrown al L) :
  AW E K n (.region id ops true) Q al L:=by
 intro A w0 σ0 a0 r0 t0
 refine vM hnd (fun ⟨_,_,al,L,_,h,_⟩=>hQo al L h) hm ?_
 let W:Nat->List (Lc×Vl):=fun i=>match ops[i]?,fs[i]? with | some o,some f=>fpW o f | _,_=>[]
 have hget:∀i,i<ops.size->∃o f,ops[i]?=some o/\fs[i]?=some f:=fun i hi=>⟨ops[i],fs[i],by simp [hi],by simp [hlen,hi]⟩
 have hW:∀(i:Nat) (o:Oper) (f:Fp),ops[i]?=some o->fs[i]?=some f->W i=fpW o f:=fun i o f h1 h2=>by simp [W,h1,h2]
 obtain ⟨tx1,tx2⟩:=Bq ops W ops.toList fs al L 0 (cx al L) (fun j o f ho hf=>by
  simp at ho
  exact ⟨by rw [Nat.zero_add];exact hW j o f ho hf,(hgo j o f ho hf).2.1⟩) (by simp [hlen]) (fun l=>rfl) htext
 simp only [Nat.zero_add,Array.getElem?_toList,Array.length_toList] at tx1 tx2
 have meet:∀(i j:Nat) (o:Oper) (f:Fp) (o':Oper) (f':Fp) (l:Lc),i<j->j<ops.size->ops[i]?=some o->fs[i]?=some f->ops[j]?=some o'->fs[j]?=some f' ->
   ((l∈(fpW o f).map (·.1)/\(l∈(fpR ops o' f').map (·.1)\/l∈(fpW o' f').map (·.1)))\/(l∈(fpW o' f').map (·.1)/\l∈(fpR ops o f).map (·.1)))->i∈befs ops ops.size j:=by
  intro i j o f o' f' l hij hj h1 h2 h3 h4 hl
  have hh:=List.all_eq_true.1 (List.all_eq_true.1 hind j (List.mem_range.2 hj)) i (List.mem_range.2 hij)
  have hi:i<ops.size:=by omega
  simp only [List.getD_eq_getElem?_getD,List.getElem?_map,List.getElem?_range hi,List.getElem?_range hj,Option.map_some,Option.getD_some,h1,h2,h3,h4] at hh
  simp only [Bool.or_eq_true,List.contains_iff_mem] at hh
  rcases hh with hh | hh
  ·simpa using hh
  ·exfalso
   simp at hh
   rcases hl with ⟨e1,e2⟩ | ⟨e1,e2⟩
   ·have:=Cy e1 (List.mem_append.2 e2)
    rw [hh.1] at this;simp at this
   ·have:=Cy e1 e2
    rw [hh.2] at this;simp at this
 obtain ⟨rd,gd⟩:=r0.drew
 have main:∀(fuel:Nat) (ld:Array Bool) (w:World) (a:Act) (alc:Al) (Lc':Lb) (σ:Sig),ld.size=ops.size->((List.range ops.size).filter fun i=>!ld.getD i true).length=fuel ->
   (∀j o,ops[j]?=some o->ld.getD j true=true->∀i∈iK o,ld.getD i true=true)->Rel E A w σ alc Lc' a->a.tmps.size=n->Grow K w0 σ0 L w σ Lc' ->
   (∀l,cx alc Lc' l=runm W (cx al L) (fun i=>ld.getD i true) ops.size l)->wpAny E.P .any ops (Post E K A w0 σ0 L n Q) fuel ld a w:=by
  intro fuel
  induction fuel with
  | zero=>
   intro ld w a alc Lc' σ hs hcnt hcl r t g hmem
   have hall:∀i,i<ops.size->ld.getD i true=true:=by
    intro i hi
    have h0:=List.eq_nil_of_length_eq_zero hcnt
    cases hx:ld.getD i true with
    | true=>rfl
    | false=>
     have:i∈(List.range ops.size).filter fun i=>!ld.getD i true:=List.mem_filter.2 ⟨List.mem_range.2 hi,by simp only [hx];rfl⟩
     rw [h0] at this;simp at this
   refine ⟨?_,alc,Lc',σ,hQ alc Lc' ?_ ?_,r,g,t⟩
   ·unfold Region.ready
    rw [List.filter_eq_nil_iff]
    intro i hi
    have:=hall i (List.mem_range.1 hi)
    simp only [this];simp
   all_goals
    intro x
    have e1:∀l,runm W (cx al L) (fun i=>ld.getD i true) ops.size l=runm W (cx al L) (fun _=>true) ops.size l:=fun l=>nV W ops.size (fun i hi _=>hall i hi)
   ·have:=hmem (.inl x);rw [e1,<-tx2] at this;simpa [cx] using this
   ·have:=hmem (.inr x);rw [e1,<-tx2] at this;simpa [cx] using this
  | succ fuel ih=>
   intro ld w a alc Lc' σ hs hcnt hcl r t g hmem
   refine ⟨fun hready=>?_,fun i hi=>?_⟩
   ·-- nothing is ready: nothing is left
    exfalso
    have hex:∃i,i<ops.size/\ld.getD i true=false:=by
     cases hf:(List.range ops.size).filter fun i=>!ld.getD i true with
     | nil=>rw [hf] at hcnt;simp at hcnt
     | cons i r=>
      have:i∈(List.range ops.size).filter fun i=>!ld.getD i true:=by rw [hf];simp
      rw [List.mem_filter] at this
      exact ⟨i,List.mem_range.1 this.1,by simpa using this.2⟩
    have hleast:∀k,(∃i,i<k/\i<ops.size/\ld.getD i true=false)->∃i,i<ops.size/\ld.getD i true=false/\∀j,j<i->j<ops.size->ld.getD j true=true:=by
     intro k
     induction k with
     | zero=>rintro ⟨i,h,_⟩;omega
     | succ k ihk=>
      intro ⟨i,h1,h2,h3⟩
      by_cases hlow:∃i,i<k/\i<ops.size/\ld.getD i true=false
      ·exact ihk hlow
      ·refine ⟨i,h2,h3,fun j hj hjs=>?_⟩
       cases hx:ld.getD j true with
       | true=>rfl
       | false=>exact absurd ⟨j,by omega,hjs,hx⟩ hlow
    obtain ⟨i0,h10,h20⟩:=hex
    obtain ⟨i,h1,h2,h3⟩:=hleast (i0+1) ⟨i0,by omega,h10,h20⟩
    have hin:i∈Region.ready .any ops ld:=by
     unfold Region.ready
     refine List.mem_filter.2 ⟨List.mem_range.2 h1,?_⟩
     obtain ⟨o,f,ho,hf⟩:=hget i h1
     simp only [h2,ho,Option.map_some,Option.getD_some,Bool.not_false,Bool.true_and]
     rw [Array.all_eq_true_iff_forall_mem]
     intro e he
     by_cases hb:Region.binds .any e=true
     ·have hem:e.on∈iK o:=List.mem_map.2 ⟨e,List.mem_filter.2 ⟨by simpa using he,hb⟩,rfl⟩
      have hlt:=List.all_eq_true.1 hedge i (List.mem_range.2 h1)
      simp only [ho] at hlt
      have:=List.all_eq_true.1 hlt e.on hem
      simp at this
      have h4:=h3 e.on this (by omega)
      have h5:ld.getD e.on false=true:=by
       have hh:e.on<ld.size:=by omega
       simp [Array.getD,hh] at h4 ⊢;exact h4
      simp [h5]
     ·simp [hb]
    rw [hready] at hin;simp at hin
   ·-- one that is ready
    unfold Region.ready at hi
    rw [List.mem_filter] at hi
    obtain ⟨hi1,hi2⟩:=hi
    have hlt:=List.mem_range.1 hi1
    obtain ⟨o,f,ho,hf⟩:=hget i hlt
    simp only [ho,Option.map_some,Option.getD_some,Bool.and_eq_true,Bool.not_eq_true'] at hi2
    obtain ⟨hni,hpre⟩:=hi2
    have hil:i<ld.size:=by omega
    have hSi:ld.getD i true=false:=hni
    have hpred:∀j∈iK o,ld.getD j true=true:=by
     intro j hj
     obtain ⟨e,he,rfl⟩:=List.mem_map.1 hj
     obtain ⟨he1,he2⟩:=List.mem_filter.1 he
     have:=(Array.all_eq_true_iff_forall_mem.1 hpre) e (by simpa using he1)
     simp [he2] at this
     by_cases hh:e.on<ld.size
     ·simp [Array.getD,hh] at this ⊢;exact this
     ·simp [Array.getD,hh]
    have hbef:∀k j,j∈befs ops k i->ld.getD j true=true:=by
     intro k j hj
     cases k with
     | zero=>simp [befs] at hj
     | succ k=>
      simp only [befs,ho,List.mem_append,List.mem_flatMap] at hj
      rcases hj with h | ⟨x,h1,h2⟩
      ·exact hpred j h
      ·exact mm (S:=fun i=>ld.getD i true) hcl k x j (hpred x h1) h2
    have hrd:∀p∈fpR ops o f,cx alc Lc' p.1=p.2:=by
     intro p hp
     rw [hmem,<-tx1 i o f ho hf p hp]
     have e1:runm W (cx al L) (fun i=>ld.getD i true) ops.size p.1=runm W (cx al L) (fun i=>ld.getD i true) i p.1:=by
      refine p9 W ops.size (by omega) fun j h1 h2 hw=>?_
      cases hx:ld.getD j true with
      | false=>rfl
      | true=>
       exfalso
       have hji:i≠j:=by rintro rfl;rw [hSi] at hx;simp at hx
       obtain ⟨o',f',ho',hf'⟩:=hget j h2
       rw [hW j o' f' ho' hf'] at hw
       have hb:=meet i j o f o' f' p.1 (by omega) h2 ho hf ho' hf' (.inr ⟨lr hw,List.mem_map_of_mem hp⟩)
       have:=mm (S:=fun i=>ld.getD i true) hcl _ j i hx hb
       rw [hSi] at this;simp at this
     rw [e1]
     refine nV W i fun j hj hw=>?_
     obtain ⟨o',f',ho',hf'⟩:=hget j (by omega)
     rw [hW j o' f' ho' hf'] at hw
     have hb:=meet j i o' f' o f p.1 hj hlt ho' hf' ho hf (.inl ⟨lr hw,.inl (List.mem_map_of_mem hp)⟩)
     exact hbef _ j hb
    have hnew:∀l,(match eq (fpW o f) l with | some v=>v | none=>cx alc Lc' l)=runm W (cx al L) (fun j=>(ld.setIfInBounds i true).getD j true) ops.size l:=by
     intro l
     have hdiff:∀j,j≠i->(ld.setIfInBounds i true).getD j true=ld.getD j true:=by
      intro j hj
      simp only [Array.getD_eq_getD_getElem?]
      rw [Array.getElem?_setIfInBounds,if_neg (Ne.symm hj)]
     have hsame:(ld.setIfInBounds i true).getD i true=true:=by
      simp [Array.getD_eq_getD_getElem?,hil]
     cases hw:eq (fpW o f) l with
     | none=>
      rw [hmem]
      refine nV W ops.size fun j hj hwj=>?_
      by_cases hji:j=i
      ·subst hji
       rw [hW j o f ho hf,hw] at hwj;simp at hwj
      ·exact (hdiff j hji).symm
     | some v=>
      have e1:runm W (cx al L) (fun j=>(ld.setIfInBounds i true).getD j true) ops.size l=runm W (cx al L) (fun j=>(ld.setIfInBounds i true).getD j true) (i+1) l:=by
       refine p9 W ops.size (by omega) fun j h1 h2 hwj=>?_
       rw [hdiff j (by omega)]
       cases hx:ld.getD j true with
       | false=>rfl
       | true=>
        exfalso
        obtain ⟨o',f',ho',hf'⟩:=hget j h2
        rw [hW j o' f' ho' hf'] at hwj
        have hb:=meet i j o f o' f' l (by omega) h2 ho hf ho' hf' (.inl ⟨lr (by rw [hw];rfl),.inr (lr hwj)⟩)
        have:=mm (S:=fun i=>ld.getD i true) hcl _ j i hx hb
        rw [hSi] at this;simp at this
      rw [e1]
      simp only [runm,hsame,if_true,exm,hW i o f ho hf,hw]
    obtain ⟨g1,g2,g3⟩:=hgo i o f ho hf
    have hcnt':((List.range ops.size).filter fun j=>!(ld.setIfInBounds i true).getD j true).length=fuel:=by
     have hdiff:∀j,j≠i->(ld.setIfInBounds i true).getD j true=ld.getD j true:=by
      intro j hj
      simp only [Array.getD_eq_getD_getElem?]
      rw [Array.getElem?_setIfInBounds,if_neg (Ne.symm hj)]
     have hsame:(ld.setIfInBounds i true).getD i true=true:=by simp [Array.getD_eq_getD_getElem?,hil]
     have aux:∀(l:List Nat),l.Nodup->i∈l->(l.filter fun j=>!(ld.setIfInBounds i true).getD j true).length+1=(l.filter fun j=>!ld.getD j true).length:=by
      intro l
      induction l with
      | nil=>simp
      | cons x l ihl=>
       intro hnd hmem
       rw [List.nodup_cons] at hnd
       by_cases hx:x=i
       ·subst hx
        have hrest:(l.filter fun j=>!(ld.setIfInBounds x true).getD j true)=l.filter fun j=>!ld.getD j true:=by
         apply List.filter_congr
         intro y hy
         rw [hdiff y (fun e=>hnd.1 (e▸hy))]
        rw [List.filter_cons_of_neg (by simp [hsame]),List.filter_cons_of_pos (by simp [hSi]),hrest]
        simp
       ·have hmem':i∈l:=by
         rcases List.mem_cons.1 hmem with h | h
         ·exact absurd h.symm hx
         ·exact h
        have:=ihl hnd.2 hmem'
        by_cases hb:ld.getD x true=true
        ·rw [List.filter_cons_of_neg (by simp [hdiff x hx,hb]),List.filter_cons_of_neg (by simp [hb])];exact this
        ·rw [List.filter_cons_of_pos (by simp [hdiff x hx,hb]),List.filter_cons_of_pos (by simp [hb])]
         simp only [List.length_cons];omega
     have:=aux (List.range ops.size) List.nodup_range hi1
     omega
    have hcl':∀j o,ops[j]?=some o->(ld.setIfInBounds i true).getD j true=true->∀k∈iK o,(ld.setIfInBounds i true).getD k true=true:=by
     have up:∀k,ld.getD k true=true->(ld.setIfInBounds i true).getD k true=true:=by
      intro k hk
      simp only [Array.getD_eq_getD_getElem?] at hk ⊢
      rw [Array.getElem?_setIfInBounds]
      by_cases hik:i=k
      ·simp [hik];split <;> rfl
      ·rw [if_neg hik];exact hk
     intro j o' ho' hj k hk
     by_cases hji:j=i
     ·subst hji
      rw [ho] at ho';simp at ho';subst ho'
      exact up k (hpred k hk)
     ·have hdiff:(ld.setIfInBounds i true).getD j true=ld.getD j true:=by
       simp only [Array.getD_eq_getD_getElem?]
       rw [Array.getElem?_setIfInBounds,if_neg (Ne.symm hji)]
      rw [hdiff] at hj
      exact up k (hcl j o' ho' hj k hk)
    have hwants:ge ops alc o=some f.run:=by
     unfold ge
     unfold AA at g1
     cases hg:o.guard with
     | none=>rw [hg] at g1;simp at g1;simp [g1]
     | some jw=>
      obtain ⟨j,want⟩:=jw
      rw [hg] at g1
      simp only [pE,hg] at g1
      cases hd:(ops[j]?).bind (·.dst) with
      | none=>rw [hd] at g1;simp at g1
      | some d=>
       have:=hrd (.inl d,.s (some (gval o f.run f.gd))) (by simp [fpR,pE,hg,hd])
       simp only [cx,Vl.s.injEq] at this
       simp only [hd,this,gval,hg]
       rw [hd] at g1
       revert g1
       cases f.gd <;> cases f.run <;> cases want <;> first | (intro _;rfl) | simp
    show wpOp E.P ops _ i _ a w
    unfold wpOp
    simp only [ho]
    by_cases hrun:f.run=true
    ·rw [if_pos (km r (by rw [hwants,hrun]))]
     refine .inl (oC (hop i o f ho hf hrun A w σ alc Lc' a r ?_ ?_ ?_) ?_ fun _ _ _ h=>h.elim)
     ·intro s y hy
      have:=hrd (.inl s,.s (some y)) (by
       simp only [fpR,hrun,if_true,List.mem_append]
       exact .inr (.inl (.inl (List.mem_map.2 ⟨(s,y),ai hy,rfl⟩))))
      simpa [cx] using this
     ·intro l y hy
      have:=hrd (.inr l,.b (some y)) (by
       simp only [fpR,hrun,if_true,List.mem_append]
       exact .inr (.inl (.inr (List.mem_map.2 ⟨(l,y),ai hy,rfl⟩))))
      simpa [cx] using this
     ·intro p hp
      by_cases hn:lget f.rl p.1=none
      ·refine .inr ?_
       have:=hrd (.inr p.1,.b none) (by
        simp only [fpR,hrun,if_true,List.mem_append]
        refine .inr (.inr (List.mem_map.2 ⟨p.1,?_,rfl⟩))
        exact List.mem_map.2 ⟨p,List.mem_filter.2 ⟨hp,by simp [hn]⟩,rfl⟩)
       simpa [cx] using this
      ·exact .inl hn
     ·rintro a' w' ⟨σ',c,rfl,hv,hb,hgr⟩
      have r':=(r.grow hb hgr).put (d:=o.dst) (fun u hu=>by rw [t];exact g3 u hu) hv
      refine ih (ld.setIfInBounds i true) w' _ (oset o.dst f.x alc) (lupd Lc' f.wl) σ' (by simpa using hs) hcnt' hcl' r' (by rw [kA];exact t) (g.trans (hgr.weaken fun _ _=>trivial)) fun l=>?_
      rw [<-hnew l,<-xk o f alc Lc' g2 l]
      simp [ms,qP,hrun]
    ·have hrf:f.run=false:=by simpa using hrun
     rw [if_neg (by rw [km r (by rw [hwants,hrf])];simp)]
     have r':=r.put (d:=o.dst) (x:=.dead) (c:=undef) (fun u hu=>by rw [t];exact g3 u hu) .dead
     refine ih (ld.setIfInBounds i true) w _ (oset o.dst .dead alc) Lc' σ (by simpa using hs) hcnt' hcl' r' (by rw [kA];exact t) g fun l=>?_
     rw [<-hnew l,<-xk o f alc Lc' g2 l]
     simp [ms,qP,hrf]
 refine main ops.size (Array.replicate ops.size false) _ a0 al L σ0 (by simp) ?_ ?_ rd t0 (gd.weaken fun _ _=>trivial) ?_
 ·have:(List.range ops.size).filter (fun i=>!(Array.replicate ops.size false).getD i true)=List.range ops.size:=by
   rw [List.filter_eq_self]
   intro i hi
   have:=List.mem_range.1 hi
   simp [Array.getD_eq_getD_getElem?,this]
  rw [this];simp
 ·intro j o ho hj i _
  exfalso
  have hj':j<ops.size:=(Array.getElem?_eq_some_iff.1 ho).1
  simp [Array.getD_eq_getD_getElem?,hj'] at hj
 ·intro l
  have:runm W (cx al L) (fun i=>(Array.replicate ops.size false).getD i true) ops.size l=runm W (cx al L) (fun i=>(Array.replicate ops.size false).getD i true) 0 l:=by
   refine p9 W ops.size (by omega) fun j _ hj _=>?_
   simp [Array.getD_eq_getD_getElem?,hj]
  rw [this];rfl
end
end Go.SH
namespace Go.SH
def Weak (E:Env) (K:Nat->Prop) (al:Al) (L:Lb) (al':Al) (L':Lb):Prop:=
 ∀A w σ a,Rel E A w σ al L a->∃σ',Rel E A w σ' al' L' a/\Grow K w σ L w σ' L'
section
variable {E:Env} {K:Nat->Prop} {n:Nat} {al al' al'':Al} {L L' L'':Lb} {Q:Exit->Al->Lb->Prop} {ops:Array Oper} {rest:List Oper}
theorem Weak.refl:Weak E K al L al L:=fun _ w σ _ r=>⟨σ,r,Grow.refl _ _ _ _⟩
theorem Weak.trans (h:Weak E K al L al' L') (h':Weak E K al' L' al'' L''):Weak E K al L al'' L'':=fun A w σ a r=>
 let ⟨σ',r',g⟩:=h A w σ a r
 let ⟨σ'',r'',g'⟩:=h' A w σ' a r'
 ⟨σ'',r'',g.trans g'⟩
theorem cY {c:Code} (hw:Weak E K al L al' L') (h:AW E K n c Q al' L'):AW E K n c Q al L:=fun A w σ a r t=>
 let ⟨σ',r',g⟩:=hw A w σ a r
 wpIn_mono (h A w σ' a r' t) fun _ _ _ p=>Post.trans g p
theorem tW (hw:Weak E K al L al' L') (h:AWl E K n ops rest Q al' L'):AWl E K n ops rest Q al L:=fun A w σ a r t=>
 let ⟨σ',r',g⟩:=hw A w σ a r
 cF (fun _ _ _ p=>Post.trans g p) _ _ _ (h A w σ' a r' t)
theorem qA {c:Code} {Q':Exit->Al->Lb->Prop} (h:AW E K n c Q' al L) (hq:∀e al L,Q' e al L->∃al' L',Weak E K al L al' L'/\Q e al' L'):AW E K n c Q al L:=fun A w σ a r t=>
 wpIn_mono (h A w σ a r t) fun e a' w' ⟨al1,L1,σ1,q,r1,g1,t1⟩=>
  let ⟨al2,L2,hw,q2⟩:=hq e al1 L1 q
  let ⟨σ2,r2,g2⟩:=hw A w' σ1 a' r1
  ⟨al2,L2,σ2,q2,r2,g1.trans g2,t1⟩
theorem Weak.sub (hs:∀p∈al',lget al p.1=some p.2):Weak E K al L al' L:=fun _ w σ _ r=>
 ⟨σ,⟨fun t x hx=>r.tmps t x (hs _ (ai hx)),r.blocks,r.globals,r.nodefer⟩,Grow.refl _ _ _ _⟩
theorem ma {σ:Sig} (h:∀l,lget L' l=lget L l) (β:Nat):cd σ L' β<->cd σ L β:=by simp only [cd,h]
theorem lT {σ:Sig} (h:∀l,lget L' l=lget L l) (β:Nat):avOf σ L' β<->avOf σ L β:=by simp only [avOf,ma h]
theorem Weak.eqL (h:∀l,lget L' l=lget L l):Weak E K al L al L':=by
 intro A w σ a r
 have hg:Grow top w σ L w σ L':=⟨Nat.le_refl _,fun _ _ _ h=>h,fun β _ hn=>⟨fun ha=>hn ((lT h β).1 ha),rfl⟩,⟨rfl,rfl,rfl⟩,fun _ _ _ _ h=>⟨h,rfl⟩⟩
 refine ⟨σ,r.grow ⟨?_,?_,?_,?_,r.blocks.fr.mono (Nat.le_refl _) (fun _ _ _ k=>k) (fun _ _ _ _=>rfl) fun _ β _ _=>(ma h β).1⟩ hg,hg.weaken fun _ _=>trivial⟩
 ·intro l cells hl
  rw [h] at hl
  rcases r.blocks.all l cells hl with h1 | ⟨β,add,size,c,T,fr,hB⟩
  ·exact .inl h1
  ·exact .inr ⟨β,add,size,c,T,fr,⟨hB.sig,hB.heap,hB.hsz,hB.fits,fun i x hx=>let ⟨v,h1,h2⟩:=hB.vals i x hx;⟨v,h1,h2.grow hg⟩,hB.frs⟩⟩
 ·intro l l' c c' β a s a' s' h1 h2;rw [h] at h1 h2;exact r.blocks.inj l l' c c' β a s a' s' h1 h2
 ·intro l x hx;rw [h];exact r.blocks.dom l x hx
 ·intro β hA;obtain ⟨h1,h2⟩:=r.blocks.lo β hA;exact ⟨h1,fun ha=>h2 ((lT h β).1 ha)⟩
end
def FOut (x y:PV):Prop:=∀(w:World) (σ:Sig) (av:Nat->Prop) (v:Value) (σ1:Sig) (av1:Nat->Prop),VR w σ av x v->(∀β,¬av β->¬av1 β)->(∀β,vA σ β->β<w.heap.size/\¬av1 β)->VR w σ1 av1 y v
inductive Out (L:Lb):PV->PV->Prop where
 | pure {x:PV} (h:iY x=true):Out L x x
 | rw {l off n sz:Nat} {co:Option Nat} {cells part:List PV} (hl:lget L l=some (some cells)) (hp:(cells.drop off).take (n*sz)=part) (hin:off+n*sz<=cells.length) (h:ag (fun _=>false) part=true) :
   Out L (.rw l off n sz co) (.ro part n none)
 | fam {x y:PV} (h:FOut x y):Out L x y
 | rwF {l off n sz:Nat} {co:Option Nat} {cells part part':List PV} (hl:lget L l=some (some cells)) (hp:(cells.drop off).take (n*sz)=part) (hin:off+n*sz<=cells.length) (hlen:part.length=part'.length)
   (h:∀(i:Nat) (x y:PV),part[i]?=some x->part'[i]?=some y->FOut x y):Out L (.rw l off n sz co) (.ro part' n none)
 | agg {xs ys:List PV} (hl:xs.length=ys.length) (h:∀(i:Nat) (x y:PV),xs[i]?=some x->ys[i]?=some y->Out L x y):Out L (.agg xs) (.agg ys)
 | tup {xs ys:List PV} (hl:xs.length=ys.length) (h:∀(i:Nat) (x y:PV),xs[i]?=some x->ys[i]?=some y->Out L x y):Out L (.tup xs) (.tup ys)
 | ptr {l off:Nat} {cells:List PV} (hl:lget L l=some (some cells)) (h:ag (fun _=>false) cells=true):Out L (.ptr l off) (.rop cells off)
 | iface {t:TypeId} {x y:PV} (h:Out L x y):Out L (.iface t x) (.iface t y)
theorem VR.pure {w:World} {σ σ1:Sig} {av av1:Nat->Prop} {x:PV} {v:Value} (h:VR w σ av x v) (hp:iY x=true) (hav:∀β,¬av β->¬av1 β):VR w σ1 av1 x v:=
 h.restrict (S:=fun _=>false) (by simp) (by simp) hav hp
mutual
def pureF:PV->Bool
 | .ptr _ _=>false
 | .rw _ _ _ _ _=>false
 | .rop cells _=>bY cells
 | .ro cells _ _=>bY cells
 | .fn _ caps=>bY caps
 | .iface _ v=>pureF v
 | .agg cells=>bY cells
 | .tup vs=>bY vs
 | .yld _ _ _ _ _ _=>false
 | .fs _ cells _ _=>bY cells
 | _=>true
def bY:List PV->Bool
 | []=>true
 | x::xs=>pureF x&&bY xs
end
theorem gn:∀{xs:List PV} {i:Nat} {x:PV},bY xs=true->xs[i]?=some x->pureF x=true
 | [],i,x,_,h=>by simp at h
 | y::ys,i,x,h,hx=>by
  simp [bY] at h
  cases i with
  | zero=>simp at hx;subst hx;exact h.1
  | succ i=>exact gn h.2 (by simpa using hx)
theorem fE:∀(xs:List PV),bY xs=xs.all pureF
 | []=>rfl
 | x::xs=>by simp [bY,fE xs]
theorem IL {x:PV} (h:iY x=true):pureF x=true:=by
 have:∀x:PV,am (fun _=>false) x=true->pureF x=true:=by
  intro x
  apply PV.rec (motive_1:=fun x=>am (fun _=>false) x=true->pureF x=true) (motive_2:=fun xs=>ag (fun _=>false) xs=true->bY xs=true)
  all_goals intros
  all_goals simp_all [am,ag,pureF,bY]
 exact this x h
theorem VR.pureF {w:World} {σ σ1:Sig} {av av1:Nat->Prop} {x:PV} {v:Value} (h:VR w σ av x v) (hF:∀q β add,σ.fam q β add->σ1.fam q β add) (hav:∀β,¬av β->¬av1 β):pureF x=true->VR w σ1 av1 x v:=by
 have imm:∀{β add cs},Imm w av β add cs->Imm w av1 β add cs:=fun h=>⟨h.lt,hav _ h.na,h.cell⟩
 induction h with
 | dead=>exact fun _=>.dead
 | int k n=>exact fun _=>.int k n
 | bool b=>exact fun _=>.bool b
 | str l=>exact fun _=>.str l
 | nilp=>exact fun _=>.nilp
 | ptr h=>exact fun hw=>by simp [Go.SH.pureF] at hw
 | rop cs him hl _ ih=>exact fun hw=>.rop cs (imm him) hl fun i x v hx hv=>ih i x v hx hv (gn (by simpa [Go.SH.pureF] using hw) hx)
 | nils=>exact fun _=>.nils
 | roE a cap hc=>exact fun _=>.roE a cap hc
 | ro cs him hl _ hn hc ih=>exact fun hw=>.ro cs (imm him) hl (fun i x v hx hv=>ih i x v hx hv (gn (by simpa [Go.SH.pureF] using hw) hx)) hn hc
 | rwE a hc=>exact fun hw=>by simp [Go.SH.pureF] at hw
 | rw h hn hc hs'=>exact fun hw=>by simp [Go.SH.pureF] at hw
 | fsE a cap hc=>exact fun _=>.fsE a cap hc
 | fs h hh hfr hl _ hn hc hz ih=>exact fun hw=>.fs (hF _ _ _ h) hh hfr hl (fun i x v hx hv=>ih i x v hx hv (gn (by simpa [Go.SH.pureF] using hw) hx)) hn hc hz
 | fn f cs hl _ ih=>exact fun hw=>.fn f cs hl fun i x v hx hv=>ih i x v hx hv (gn (by simpa [Go.SH.pureF] using hw) hx)
 | nilf=>exact fun _=>.nilf
 | raw v=>exact fun _=>.raw v
 | iface t v _ ih=>exact fun hw=>.iface t v (ih (by simpa [Go.SH.pureF] using hw))
 | nili=>exact fun _=>.nili
 | ev T o h=>exact fun _=>.ev T o fun a e=>⟨hav _ (h a e).na,(h a e).heap⟩
 | xc g cs T fr v h0 hn hh=>exact fun _=>.xc g cs T fr v h0 (hav _ hn) hh
 | agg cs hl _ ih=>exact fun hw=>.agg cs hl fun i x v hx hv=>ih i x v hx hv (gn (by simpa [Go.SH.pureF] using hw) hx)
 | tup cs hl _ ih=>exact fun hw=>.tup cs hl fun i x v hx hv=>ih i x v hx hv (gn (by simpa [Go.SH.pureF] using hw) hx)
 | yld l fn dfr tmps cs hn hl hz hc ht _ ih=>exact fun hw=>by simp [Go.SH.pureF] at hw
theorem Out.ok {w:World} {σ:Sig} {A:Nat->Prop} {L:Lb} (hb:BR w σ A L) {x y:PV} (ho:Out L x y):∀{v:Value} {σ1:Sig} {av1:Nat->Prop},VR w σ (avo A σ L) x v->(∀β,¬avo A σ L β->¬av1 β) ->
  (∀β,avOf σ L β->¬av1 β)->VR w σ1 av1 y v:=by
 induction ho with
 | pure hp=>exact fun h h1 h2=>h.pure hp h1
 | @rw l off n sz co cells part hl hp hin hpure=>
  intro v σ1 av1 h h1 h2
  cases h with
  | rwE a hc=>
   have:part=[]:=by rw [<-hp];simp
   subst this
   exact .roE a 0 (by simp)
  | @rw _ _ _ _ _ β add size cap hs hn hc hsz=>
   rcases hb.all l cells hl with ⟨h3,h4⟩ | ⟨β',add',size',c,T,fr,hB⟩
   ·rw [hs] at h3;simp at h3
   ·have:=hB.sig;rw [hs] at this;simp at this
    obtain ⟨rfl,rfl,rfl⟩:=this
    have hlen:part.length=n*sz:=by rw [<-hp];simp;omega
    have hlt:β<w.heap.size:=(Array.getElem?_eq_some_iff.1 hB.heap).1
    have get:∀i x,part[i]?=some x->cells[off+i]?=some x:=by
     intro i x hx
     rw [<-hp,List.getElem?_take] at hx
     split at hx
     ·rw [List.getElem?_drop] at hx;exact hx
     ·simp at hx
    let f:Nat->Value:=fun i=>(c[add+off+i]?).getD undef
    refine .ro ((List.range (n*sz)).map f) ⟨hlt,h2 β (.inl ⟨l,cells,add,size,hl,hs⟩),fun i v hv=>?_⟩ (by simp [hlen]) (fun i x v hx hv=>?_) hn (by simp)
    ·have hi:i<n*sz:=by have:=(List.getElem?_eq_some_iff.1 hv).1;simpa using this
     have hi2:i<part.length:=by omega
     obtain ⟨u,h5,h6⟩:=hB.vals _ _ (get i _ (List.getElem?_eq_getElem hi2))
     rw [fK hB.heap]
     rw [<-Nat.add_assoc] at h5
     simp [List.getElem?_range hi,f,h5] at hv
     rw [h5,hv]
    ·have hi:i<n*sz:=by have:=(List.getElem?_eq_some_iff.1 hv).1;simpa using this
     obtain ⟨u,h5,h6⟩:=hB.vals _ _ (get i x hx)
     rw [<-Nat.add_assoc] at h5
     simp [List.getElem?_range hi,f,h5] at hv
     rw [<-hv]
     exact h6.pure (az hpure hx) h1
 | fam hf=>exact fun h h1 h2=>hf _ _ _ _ _ _ h h1 fun β hβ=>⟨let ⟨q,add,k⟩:=hβ;(hb.fr.fam q β add k).1,h2 β (.inr hβ)⟩
 | @rwF l off n sz co cells part part' hl hp hin hlen' hF=>
  intro v σ1 av1 h h1 h2
  cases h with
  | rwE a hc=>
   have:part=[]:=by rw [<-hp];simp
   subst this
   have:part'=[]:=List.eq_nil_of_length_eq_zero hlen'.symm
   subst this
   exact .roE a 0 (by simp)
  | @rw _ _ _ _ _ β add size cap hs hn hc hsz=>
   rcases hb.all l cells hl with ⟨h3,h4⟩ | ⟨β',add',size',c,T,fr,hB⟩
   ·rw [hs] at h3;simp at h3
   ·have:=hB.sig;rw [hs] at this;simp at this
    obtain ⟨rfl,rfl,rfl⟩:=this
    have hlen:part.length=n*sz:=by rw [<-hp];simp;omega
    have hlt:β<w.heap.size:=(Array.getElem?_eq_some_iff.1 hB.heap).1
    have get:∀i x,part[i]?=some x->cells[off+i]?=some x:=by
     intro i x hx
     rw [<-hp,List.getElem?_take] at hx
     split at hx
     ·rw [List.getElem?_drop] at hx;exact hx
     ·simp at hx
    let f:Nat->Value:=fun i=>(c[add+off+i]?).getD undef
    refine .ro ((List.range (n*sz)).map f) ⟨hlt,h2 β (.inl ⟨l,cells,add,size,hl,hs⟩),fun i v hv=>?_⟩ (by simp [<-hlen',hlen]) (fun i x v hx hv=>?_) hn (by simp)
    ·have hi:i<n*sz:=by have:=(List.getElem?_eq_some_iff.1 hv).1;simpa using this
     have hi2:i<part.length:=by omega
     obtain ⟨u,h5,h6⟩:=hB.vals _ _ (get i _ (List.getElem?_eq_getElem hi2))
     rw [fK hB.heap]
     rw [<-Nat.add_assoc] at h5
     simp [List.getElem?_range hi,f,h5] at hv
     rw [h5,hv]
    ·have hi:i<n*sz:=by have:=(List.getElem?_eq_some_iff.1 hv).1;simpa using this
     have hi2:i<part.length:=by omega
     obtain ⟨u,h5,h6⟩:=hB.vals _ _ (get i _ (List.getElem?_eq_getElem hi2))
     rw [<-Nat.add_assoc] at h5
     simp [List.getElem?_range hi,f,h5] at hv
     rw [<-hv]
     exact hF i _ x (List.getElem?_eq_getElem hi2) hx _ _ _ _ _ _ h6 h1 fun β hβ=>⟨let ⟨q,add,k⟩:=hβ;(hb.fr.fam q β add k).1,h2 β (.inr hβ)⟩
 | @ptr l off cells hl hpure=>
  intro v σ1 av1 h h1 h2
  cases h with
  | @ptr _ _ β add size hs=>
   rcases hb.all l cells hl with ⟨h3,h4⟩ | ⟨β',add',size',c,T,fr,hB⟩
   ·rw [hs] at h3;simp at h3
   ·have:=hB.sig;rw [hs] at this;simp at this
    obtain ⟨rfl,rfl,rfl⟩:=this
    have hlt:β<w.heap.size:=(Array.getElem?_eq_some_iff.1 hB.heap).1
    let f:Nat->Value:=fun i=>(c[add+i]?).getD undef
    refine .rop ((List.range cells.length).map f) ⟨hlt,h2 β (.inl ⟨l,cells,add,size,hl,hs⟩),fun i v hv=>?_⟩ (by simp) (fun i x v hx hv=>?_)
    ·have hi:i<cells.length:=by have:=(List.getElem?_eq_some_iff.1 hv).1;simpa using this
     obtain ⟨u,h5,h6⟩:=hB.vals _ _ (List.getElem?_eq_getElem hi)
     rw [fK hB.heap]
     simp [List.getElem?_range hi,f,h5] at hv
     rw [h5,hv]
    ·have hi:i<cells.length:=by have:=(List.getElem?_eq_some_iff.1 hv).1;simpa using this
     obtain ⟨u,h5,h6⟩:=hB.vals _ _ hx
     simp [List.getElem?_range hi,f,h5] at hv
     rw [<-hv]
     exact h6.pure (az hpure hx) h1
 | iface _ ih=>
  intro v σ1 av1 h h1 h2
  cases h with
  | iface _ u hu=>exact .iface _ u (ih hu h1 h2)
 | @agg xs ys hl _ ih=>
  intro v σ1 av1 h h1 h2
  cases h with
  | agg cs hl' hv=>
   refine .agg cs (by omega) fun i y v hy hv'=>?_
   have hi:i<xs.length:=by rw [hl];exact (List.getElem?_eq_some_iff.1 hy).1
   exact ih i _ y (List.getElem?_eq_getElem hi) hy (hv i _ v (List.getElem?_eq_getElem hi) hv') h1 h2
 | @tup xs ys hl _ ih=>
  intro v σ1 av1 h h1 h2
  cases h with
  | tup cs hl' hv=>
   refine .tup cs (by omega) fun i y v hy hv'=>?_
   have hi:i<xs.length:=by rw [hl];exact (List.getElem?_eq_some_iff.1 hy).1
   exact ih i _ y (List.getElem?_eq_getElem hi) hy (hv i _ v (List.getElem?_eq_getElem hi) hv') h1 h2
theorem Out.okH {w:World} {σ:Sig} {av:Nat->Prop} {L:Lb} {x y:PV} (ho:Out L x y):∀{v:Value} {σ1:Sig} {av1:Nat->Prop},VR w σ av x v->iY x=true->(∀β,¬av β->¬av1 β)->VR w σ1 av1 y v:=by
 induction ho with
 | pure hp=>exact fun h _ h1=>h.pure hp h1
 | rw hl hp hin hpure=>exact fun h hx h1=>by simp [iY,am] at hx
 | fam hf=>exact fun h hx h1=>hf _ sig0 _ _ _ _ (h.pure hx fun _ h=>h) h1 fun β ⟨q,add,k⟩=>k.elim
 | rwF hl hp hin hlen hF=>exact fun h hx h1=>by simp [iY,am] at hx
 | ptr hl hpure=>exact fun h hx h1=>by simp [iY,am] at hx
 | iface _ ih=>
  intro v σ1 av1 h hx h1
  cases h with
  | iface _ u hu=>exact .iface _ u (ih hu (by simpa [iY,am] using hx) h1)
 | @agg xs ys hl _ ih=>
  intro v σ1 av1 h hx h1
  cases h with
  | agg cs hl' hv=>
   refine .agg cs (by omega) fun i y v hy hv'=>?_
   have hi:i<xs.length:=by rw [hl];exact (List.getElem?_eq_some_iff.1 hy).1
   exact ih i _ y (List.getElem?_eq_getElem hi) hy (hv i _ v (List.getElem?_eq_getElem hi) hv') (az (by simpa [iY,am] using hx) (List.getElem?_eq_getElem hi)) h1
 | @tup xs ys hl _ ih=>
  intro v σ1 av1 h hx h1
  cases h with
  | tup cs hl' hv=>
   refine .tup cs (by omega) fun i y v hy hv'=>?_
   have hi:i<xs.length:=by rw [hl];exact (List.getElem?_eq_some_iff.1 hy).1
   exact ih i _ y (List.getElem?_eq_getElem hi) hy (hv i _ v (List.getElem?_eq_getElem hi) hv') (az (by simpa [iY,am] using hx) (List.getElem?_eq_getElem hi)) h1
theorem Env.pureG {E:Env} (hE:∀g cells,lget E.G g=some cells->ag (fun _=>false) cells=true) {w:World} {σ σ1:Sig} {av av1:Nat->Prop} {g:Nat} {cells:List PV} (hg:lget E.G g=some cells)
  (h:VR w σ av (.rop cells 0) (.pointer (some ⟨g,0,none⟩))) (hav:∀β,¬av β->¬av1 β):VR w σ1 av1 (.rop cells 0) (.pointer (some ⟨g,0,none⟩)):=
 h.pure (by simp [iY,am,hE g cells hg]) hav
theorem avz {β:Nat}:¬avOf sig0 [] β:=by
 rintro (⟨l,c,a,s,h1,_⟩ | ⟨q,add,h⟩)
 ·simp [lget] at h1
 ·exact h
theorem BR0 {w:World} {A:Nat->Prop} (h:∀β,A β->β<w.heap.size):BR w sig0 A []:=
 ⟨by simp [lget],by simp [lget],by simp [sig0],fun β hA=>⟨h β hA,avz⟩,FR.none fun _ _ _ h=>h⟩
mutual
def noRo:PV->Bool
 | .ev _ _=>false
 | .xc _ _=>false
 | .rop _ _=>false
 | .ro _ _ _=>false
 | .ptr _ _=>false
 | .rw _ _ _ _ _=>false
 | .yld _ _ _ _ _ _=>false
 | .fs _ cells _ _=>kD cells
 | .fn _ caps=>kD caps
 | .iface _ v=>noRo v
 | .agg cells=>kD cells
 | .tup vs=>kD vs
 | _=>true
def kD:List PV->Bool
 | []=>true
 | x::xs=>noRo x&&kD xs
end
theorem nk:∀{xs:List PV} {i:Nat} {x:PV},kD xs=true->xs[i]?=some x->noRo x=true
 | [],i,x,_,h=>by simp at h
 | y::ys,i,x,h,hx=>by
  simp [kD] at h
  cases i with
  | zero=>simp at hx;subst hx;exact h.1
  | succ i=>exact nk h.2 (by simpa using hx)
theorem VR.scalar {w w1:World} {σ σ1:Sig} {av av1:Nat->Prop} {x:PV} {v:Value} (h:VR w σ av x v) (hf:∀q β add,σ.fam q β add->σ1.fam q β add/\w1.heap[β]?=w.heap[β]?):noRo x=true->VR w1 σ1 av1 x v:=by
 induction h with
 | dead=>exact fun _=>.dead
 | int k n=>exact fun _=>.int k n
 | bool b=>exact fun _=>.bool b
 | str l=>exact fun _=>.str l
 | nilp=>exact fun _=>.nilp
 | ptr h=>exact fun hw=>by simp [noRo] at hw
 | rop cs him hl _ ih=>exact fun hw=>by simp [noRo] at hw
 | nils=>exact fun _=>.nils
 | roE a cap hc=>exact fun hw=>by simp [noRo] at hw
 | ro cs him hl _ hn hc ih=>exact fun hw=>by simp [noRo] at hw
 | rwE a hc=>exact fun hw=>by simp [noRo] at hw
 | rw h hn hc hs'=>exact fun hw=>by simp [noRo] at hw
 | fsE a cap hc=>exact fun _=>.fsE a cap hc
 | fs h hh hfr hl _ hn hc hz ih=>exact fun hw=>.fs (hf _ _ _ h).1 ((hf _ _ _ h).2.trans hh) hfr hl (fun i x v hx hv=>ih i x v hx hv (nk (by simpa [noRo] using hw) hx)) hn hc hz
 | fn f cs hl _ ih=>exact fun hw=>.fn f cs hl fun i x v hx hv=>ih i x v hx hv (nk (by simpa [noRo] using hw) hx)
 | nilf=>exact fun _=>.nilf
 | raw v=>exact fun _=>.raw v
 | iface t v _ ih=>exact fun hw=>.iface t v (ih (by simpa [noRo] using hw))
 | nili=>exact fun _=>.nili
 | ev T o h=>exact fun hw=>by simp [noRo] at hw
 | xc g cs T fr v h0 hn hh=>exact fun hw=>by simp [noRo] at hw
 | agg cs hl _ ih=>exact fun hw=>.agg cs hl fun i x v hx hv=>ih i x v hx hv (nk (by simpa [noRo] using hw) hx)
 | tup cs hl _ ih=>exact fun hw=>.tup cs hl fun i x v hx hv=>ih i x v hx hv (nk (by simpa [noRo] using hw) hx)
 | yld l fn dfr tmps cs hn hl hz hc ht _ ih=>exact fun hw=>by simp [noRo] at hw
def Pure (E:Env) (f:FuncId) (args:List PV) (v:PV):Prop:=dQ E f args [] fun r L'=>r=v/\L'=[]
def GOK (E:Env):Prop:=∀g cells,lget E.G g=some cells->ag (fun _=>false) cells=true
section
variable {E:Env} {d:Option Tmp} {ty:TypeId} {pos:String} {after:Array Edge} {g:Option (Nat×Bool)} {ra:Al} {rl:Lb}
theorem wZ {A:Nat->Prop} {w:World} {σ:Sig} {al:Al} {L:Lb} {a:Act} (r:Rel E A w σ al L a) (h1:∀t y,lget ra t=some y->lget al t=some y) {fo:Operand} {args:Array Operand} {ts:Array TypeId} {f:FuncId} {caps xs:List PV}
  (hf:xev E.G ra fo=some (.fn f caps)) (hx:xevs E.G ra args.toList=some xs) (hrun:∀args w,(callFunc f args).run E.P w = .ok (.enter f args) w) :
  ∃cargs:List Value,(execOp a.eval ⟨d,.call ⟨.value fo,args,ts⟩,ty,pos,after,g⟩).run E.P w = .ok (.enter f cargs.toArray) w/\cargs.length=(xs++caps).length /\
   ∀(i:Nat) (x:PV) (v:Value),(xs++caps)[i]?=some x->cargs[i]?=some v->VR w σ (avo A σ L) x v:=by
 have hv:=aQ r h1 hf
 obtain ⟨e1,e2⟩:=p7 r h1 _ _ hx
 generalize he:a.eval fo=vf at hv
 cases hv with
 | fn f' cs hl hcv=>
  refine ⟨args.toList.map a.eval++cs,?_,by simp [e1,hl],?_⟩
  ·simp [execOp,resolve,Deferred.ofValue,he,invoke,hrun]
  ·intro i x v hx' hv'
   by_cases hi:i<xs.length
   ·rw [List.getElem?_append_left hi] at hx'
    rw [List.getElem?_append_left (by omega)] at hv'
    exact e2 i x v hx' hv'
   ·rw [List.getElem?_append_right (by omega)] at hx'
    rw [List.getElem?_append_right (by omega)] at hv'
    rw [<-e1] at hv'
    exact hcv _ x v hx' hv'
theorem CY {fo:Operand} {args:Array Operand} {ts:Array TypeId} {f:FuncId} {caps xs ys:List PV} {v:PV} (hf:xev E.G ra fo=some (.fn f caps)) (hx:xevs E.G ra args.toList=some xs)
  (hrun:∀args w,(callFunc f args).run E.P w = .ok (.enter f args) w) (hG:GOK E) (hlen:(xs++caps).length=ys.length) (hout:∀(i:Nat) (x y:PV),(xs++caps)[i]?=some x->ys[i]?=some y->Out rl x y) (h:Pure E f ys v)
  (hv:ag (fun _=>false) (xs++caps)=true\/noRo v=true):AOp E ⟨d,.call ⟨.value fo,args,ts⟩,ty,pos,after,g⟩ ra rl v []:=by
 intro A w σ al L a r h1 h2 _
 obtain ⟨cargs,hr,hl,hcv⟩:=wZ (d:=d) (ty:=ty) (pos:=pos) (after:=after) (g:=g) (ts:=ts) r h1 hf hx hrun
 unfold Oper.wp
 rw [hr]
 have houtL:∀{x y},Out rl x y->Out L x y:=by
  intro x y ho
  induction ho with
  | pure h=>exact .pure h
  | rw hl hp hin h=>exact .rw (h2 _ _ hl) hp hin h
  | fam h=>exact .fam h
  | rwF hl hp hin hlen h=>exact .rwF (h2 _ _ hl) hp hin hlen h
  | agg hl _ ih=>exact .agg hl ih
  | tup hl _ ih=>exact .tup hl ih
  | ptr hl h=>exact .ptr (h2 _ _ hl) h
  | iface _ ih=>exact .iface ih
 have back:∀{A1:Nat->Prop} {w':World} {σ':Sig},(∀β,A1 β->A1 β)->Grow (fun l=>lget ([]:Lb) l≠none) w sig0 [] w' σ' []->BR w' σ' A1 [] ->
   ∃σn:Sig,σn.lab=σ.lab/\(∀q β add,σn.fam q β add<->(σ.fam q β add\/σ'.fam q β add))/\BR w' σn A L/\Grow top w σ L w' σn L/\(∀l y,σ' l=some y->False):=by
  intro A1 w' σ' _ hgr hbr
  have hnl:∀l y,σ' l=some y->False:=fun l y hy=>by have:=hbr.dom l y hy;simp [lget] at this
  have hold:∀{β},β<w.heap.size->¬vA σ' β/\w'.heap[β]?=w.heap[β]?:=fun hb=>let ⟨h1,h2⟩:=hgr.keep _ hb avz;⟨fun h=>h1 (.inr h),h2⟩
  refine ⟨⟨σ.lab,fun q β add=>σ.fam q β add\/σ'.fam q β add⟩,rfl,fun _ _ _=>Iff.rfl,?_,?_,hnl⟩
  rotate_left
  ·refine ⟨hgr.size,fun _ _ _ h=>h,fun β hb hn=>⟨?_,(hold hb).2⟩,hgr.out,fun _ q β add h=>⟨.inl h,(hold (r.blocks.fr.fam q β add h).1).2⟩⟩
   rintro (h | ⟨q,add,h | h⟩)
   ·exact hn (.inl h)
   ·exact hn (.inr ⟨q,add,h⟩)
   ·exact (hold hb).1 ⟨q,add,h⟩
  ·have hg:Grow top w σ L w' ⟨σ.lab,fun q β add=>σ.fam q β add\/σ'.fam q β add⟩ L:=by
    refine ⟨hgr.size,fun _ _ _ h=>h,fun β hb hn=>⟨?_,(hold hb).2⟩,hgr.out,fun _ q β add h=>⟨.inl h,(hold (r.blocks.fr.fam q β add h).1).2⟩⟩
    rintro (h | ⟨q,add,h | h⟩)
    ·exact hn (.inl h)
    ·exact hn (.inr ⟨q,add,h⟩)
    ·exact (hold hb).1 ⟨q,add,h⟩
   refine ⟨?_,r.blocks.inj,r.blocks.dom,fun β hA=>⟨Nat.lt_of_lt_of_le (r.blocks.lo β hA).1 hgr.size,?_⟩,?_,?_,?_⟩
   ·intro l cells hl
    rcases r.blocks.all l cells hl with h | ⟨β,add,size,c,T,fr,hB⟩
    ·exact .inl h
    ·exact .inr ⟨β,add,size,c,T,fr,⟨hB.sig,by rw [(hold (r.blocks.lt (.inl ⟨l,cells,_,_,hl,hB.sig⟩))).2];exact hB.heap,hB.hsz,hB.fits,fun i x hx=>let ⟨v,h1,h2⟩:=hB.vals i x hx;⟨v,h1,h2.grow hg⟩,hB.frs⟩⟩
   ·rintro (h | ⟨q,add,h | h⟩)
    ·exact (r.blocks.lo β hA).2 (.inl h)
    ·exact (r.blocks.lo β hA).2 (.inr ⟨q,add,h⟩)
    ·exact (hold (r.blocks.lo β hA).1).1 ⟨q,add,h⟩
   ·rintro q β add (h | h)
    ·exact ⟨Nat.lt_of_lt_of_le (r.blocks.fr.fam q β add h).1 hgr.size,(r.blocks.fr.fam q β add h).2⟩
    ·refine ⟨(hbr.fr.fam q β add h).1,fun ha=>?_⟩
     exact (hold (r.blocks.lt (.inl ha))).1 ⟨q,add,h⟩
   ·rintro q β add (h | h)
    ·obtain ⟨c,T,fr,e⟩:=r.blocks.fr.cel q β add h
     exact ⟨c,T,fr,(hold (r.blocks.fr.fam q β add h).1).2.trans e⟩
    ·exact hbr.fr.cel q β add h
   ·rintro q q' β add add' (h | h) (h' | h')
    ·exact r.blocks.fr.one _ _ _ _ _ h h'
    ·exact ((hold (r.blocks.fr.fam q β add h).1).1 ⟨q',add',h'⟩).elim
    ·exact ((hold (r.blocks.fr.fam q' β add' h').1).1 ⟨q,add,h⟩).elim
    ·exact hbr.fr.one _ _ _ _ _ h h'
 rcases hv with hp | hs
 ·have hA1:BR w sig0 (avo A σ L) []:=BR0 fun β hA=>?_
  ·have hav:∀β,¬avo A σ L β->¬avo (avo A σ L) sig0 [] β:=by
    rintro β hn (h' | h')
    ·exact hn h'
    ·exact avz h'
   refine (h (avo A σ L) w sig0 cargs (by omega) (fun i y u hy hu=>?_) hA1 (fun g cells hg=>Env.pureG hG hg (r.globals g cells hg) hav)).mono ?_
   ·have hi:i<(xs++caps).length:=by rw [hlen];exact (List.getElem?_eq_some_iff.1 hy).1
    have hxi:=List.getElem?_eq_getElem hi
    exact (hout i _ y hxi hy).okH (hcv i _ u hxi hu) (az hp hxi) hav
   ·rintro e w' ⟨x,c,L',σ',rfl,⟨rfl,rfl⟩,hvr,hbr,hgr⟩
    obtain ⟨σn,e1,e2,e3,e4,hnl⟩:=back (fun _ h=>h) hgr hbr
    refine ⟨σn,c,rfl,?_,e3,e4⟩
    refine hvr.mono (fun l y hy=>(hnl l y hy).elim) (Nat.le_refl _) (fun β _ hn=>⟨?_,rfl⟩) fun q β add k=>⟨(e2 q β add).2 (.inr k),rfl⟩
    rintro (ha | ⟨l,cells,a,s,h3,h4⟩ | ⟨q,add,h3⟩)
    ·exact hn (.inl (.inl ha))
    ·exact hn (.inl (.inr (.inl ⟨l,cells,a,s,h3,by rw [<-e1];exact h4⟩)))
    ·rcases (e2 q β add).1 h3 with h3 | h3
     ·exact hn (.inl (.inr (.inr ⟨q,add,h3⟩)))
     ·exact hn (.inr (.inr ⟨q,add,h3⟩))
  ·rcases hA with h | h
   ·exact (r.blocks.lo β h).1
   ·exact r.blocks.lt h
 ·have hA1:BR w sig0 A []:=BR0 fun β hA=>(r.blocks.lo β hA).1
  have hav:∀β,¬avo A σ L β->¬avo A sig0 [] β:=by
   rintro β hn (h' | h')
   ·exact hn (.inl h')
   ·exact avz h'
  have hdis:∀β,avOf σ L β->¬avo A sig0 [] β:=by
   rintro β h (h' | h')
   ·exact (r.blocks.lo β h').2 h
   ·exact avz h'
  refine (h A w sig0 cargs (by omega) (fun i y u hy hu=>?_) hA1 (fun g cells hg=>Env.pureG hG hg (r.globals g cells hg) hav)).mono ?_
  ·have hi:i<(xs++caps).length:=by rw [hlen];exact (List.getElem?_eq_some_iff.1 hy).1
   have hxi:=List.getElem?_eq_getElem hi
   exact (houtL (hout i _ y hxi hy)).ok r.blocks (hcv i _ u hxi hu) hav hdis
  ·rintro e w' ⟨x,c,L',σ',rfl,⟨rfl,rfl⟩,hvr,hbr,hgr⟩
   obtain ⟨σn,e1,e2,e3,e4,hnl⟩:=back (fun _ h=>h) hgr hbr
   exact ⟨σn,c,rfl,hvr.scalar (fun q β add k=>⟨(e2 q β add).2 (.inr k),rfl⟩) hs,e3,e4⟩
end
section
variable {E:Env} {K:Nat->Prop} {n:Nat} {al:Al} {L:Lb} {Q:Exit->Al->Lb->Prop} {ops:Array Oper} {rest:List Oper}
end
end Go.SH
namespace Go.SH
def xidx (P:Program) (T:TypeId) (p:PV) (i:Int):Option PV:=
 match P.underlying T with
 | some (.array n e)=>match P.info? e with
  | some ie=>if 0<=i/\i<n then bX (i.toNat*ie.size) p else none
  | none=>none
 | some (.slice e)=>match P.info? e,xlen p with
  | some ie,some n=>if 0<=i/\i<n then jN ie.size i p else none
  | _,_=>none
 | _=>none
def Gk (P:Program) (T:TypeId) (i:Int):PV->Option PV
 | .agg cells=>match P.underlying T with
  | some (.array n e)=>match P.info? e with
   | some ie=>if 0<=i/\i<n then oE P e cells (i.toNat*ie.size) else none
   | none=>none
  | _=>none
 | .str s=>match P.underlying T with
  | some .string=>if 0<=i then (s[i.toNat]?).map fun c=>.int .u8 c.toNat else none
  | _=>none
 | _=>none
def I4 (P:Program) (T:TypeId):Bool:=match P.underlying T with | some (.interface _)=>false | some _=>true | none=>false
def xop (P:Program) (G:List (Nat×List PV)) (o:Oper) (al:Al) (L:Lb) (lab:Nat):Option (PV×Lb):=
 match o.op with
 | .move x=>(xev G al x).map fun v=>(v,[])
 | .assign x=>(xev G al x).map fun v=>(v,[])
 | .pick c a b=>match xev G al c with
  | some p=>(Bn p (xev G al a) (xev G al b)).map fun v=>(v,[])
  | none=>none
 | .binOp op T x y _=>match xev G al x,xev G al y with
  | some a,some b=>(xbin P op T x y a b).map fun v=>(v,[])
  | _,_=>none
 | .unOp op _ x=>match xev G al x with
  | some a=>(xun op a).map fun v=>(v,[])
  | none=>none
 | .convert s t x=>match xev G al x with
  | some a=>(Bp P s t a).map fun v=>(v,[])
  | none=>none
 | .load T p=>match xev G al p with
  | some q=>(kg P T L q).map fun v=>(v,[])
  | none=>none
 | .store T p v=>match o.dst,xev G al p,xev G al v,P.info? T with
  | none,some (.ptr l off),some x,some i=>match lget L l with
   | some (some cells)=>if (cJ x).length=i.size/\(cJ x).all PV.one=true/\off+i.size<=cells.length/\0<i.size then some (.dead,[(l,some (dw cells off (cJ x)))]) else none
   | _=>none
  | _,_,_,_=>none
 | .box _ x=>match xev G al x with
  | some v=>if (cJ v).all PV.one=true then some (.ptr lab 0,[(lab,some (cJ v))]) else none
  | none=>none
 | .alloc T=>(g7 P T).map fun z=>(.ptr lab 0,[(lab,some z)])
 | .build T ps=>match mo G al ps.toList with
  | some qs=>(wH P T qs).map fun c=>(.agg c,[])
  | none=>none
 | .buildSlice T len ps=>match mo G al ps.toList with
  | some qs=>(kj P T len qs).map fun c=>(.rw lab 0 len c.2 (some len),[(lab,some c.1)])
  | none=>none
 | .fieldAddr S x f=>match xev G al x,xoff P S f with
  | some p,some (k,_,_)=>(bX k p).map fun v=>(v,[])
  | _,_=>none
 | .field S x f=>match xev G al x,xoff P S f with
  | some (.agg cells),some (k,T,_)=>(oE P T cells k).map fun v=>(v,[])
  | _,_=>none
 | .extract x i=>match xev G al x with
  | some (.tup vs)=>(vs[i]?).map fun v=>(v,[])
  | _=>none
 | .makeFunc (.func f) first caps=>if first.size=0 then (xevs G al caps.toList).map fun c=>(.fn f c,[]) else none
 | .makeInterface T x=>if I4 P T then (xev G al x).map fun v=>(.iface T v,[]) else none
 | .nilCheck x=>match xev G al x with
  | some p=>if xnil p=true then some (p,[]) else none
  | none=>none
 | .indexAddr T x i=>match xev G al x,xev G al i with
  | some p,some (.int _ k)=>(xidx P T p k).map fun v=>(v,[])
  | _,_=>none
 | .index T x i=>match xev G al x,xev G al i with
  | some p,some (.int _ k)=>(Gk P T k p).map fun v=>(v,[])
  | _,_=>none
 | .call ⟨.builtin b,args,ts⟩=>match b,xevs G al args.toList with
  | .len,some [p]=>match ts.toList with
   | [t]=>if EG P t p=true then (match xlen p with | some m=>some (.int .i64 (m:Int),[]) | none=>none) else
    match P.underlying t with
    | some (.array n _)=>some (.int .i64 n,[])
    | some (.pointer u)=>match P.underlying u with
     | some (.array n _)=>some (.int .i64 n,[])
     | _=>none
    | _=>none
   | _=>none
  | .min,some (.int k m::r)=>(oF false k m r).map fun q=>(.int k q,[])
  | .max,some (.int k m::r)=>(oF true k m r).map fun q=>(.int k q,[])
  | _,_=>none
 | _=>none
theorem Gl {G:List (Nat×List PV)} {al:Al} {args:Array Operand} {p:PV} (h:xevs G al args.toList=some [p]):∃x,args=#[x]/\xev G al x=some p:=by
 obtain ⟨l⟩:=args
 cases l with
 | nil=>simp [xevs] at h
 | cons x r=>
  cases r with
  | nil=>simp only [xevs] at h;cases hx:xev G al x <;> simp [hx] at h;exact ⟨x,rfl,by rw [hx,h]⟩
  | cons y r=>
   simp only [xevs] at h
   cases hx:xev G al x <;> cases hy:xev G al y <;> cases hr:xevs G al r <;> simp [hx,hy,hr] at h
theorem F3 {α:Type} {a:Array α} (h:a.size=0):a=#[]:=by
 obtain ⟨l⟩:=a
 simp at h;subst h;rfl
theorem Gi {E:Env} {o:Oper} {al:Al} {L:Lb} {lab:Nat} {x:PV} {wl:Lb} (hlab:lget L lab=none) (h:xop E.P E.G o al L lab=some (x,wl)):AOp E o al L x wl:=by
 obtain ⟨d,op,ty,pos,after,g⟩:=o
 unfold xop at h
 split at h
 all_goals first
  | (simp at h;done)
  | (rename_i hop;simp only at hop;subst hop)
 ·simp at h;obtain ⟨v,h1,rfl,rfl⟩:=h;exact CW h1
 ·simp at h;obtain ⟨v,h1,rfl,rfl⟩:=h;exact sc h1
 ·split at h
  ·rename_i p hp;simp at h;obtain ⟨v,h1,rfl,rfl⟩:=h;exact yr hp h1
  ·simp at h
 ·split at h
  ·rename_i p q hp hq;simp at h;obtain ⟨v,h1,rfl,rfl⟩:=h;exact gX hp hq h1
  ·simp at h
 ·split at h
  ·rename_i p hp;simp at h;obtain ⟨v,h1,rfl,rfl⟩:=h;exact CU hp h1
  ·simp at h
 ·split at h
  ·rename_i p hp;simp at h;obtain ⟨v,h1,rfl,rfl⟩:=h;exact pZ hp h1
  ·simp at h
 ·split at h
  ·rename_i p hp;simp at h;obtain ⟨v,h1,rfl,rfl⟩:=h;exact kO hp h1
  ·simp at h
 ·split at h
  ·rename_i l off y i hd hp hv hi
   simp only at hd;subst hd
   split at h
   ·rename_i cells hc
    split at h
    ·rename_i hh;simp at h;obtain ⟨rfl,rfl⟩:=h
     exact uZ hp hv hc hi hh.1 hh.2.1 hh.2.2.1 hh.2.2.2
    ·simp at h
   ·simp at h
  ·simp at h
 ·split at h
  ·rename_i v hv
   split at h
   ·rename_i hh;simp at h;obtain ⟨rfl,rfl⟩:=h;exact Fi lab hv hh hlab
   ·simp at h
  ·simp at h
 ·simp at h;obtain ⟨z,hz,rfl,rfl⟩:=h;exact z8 lab hz hlab
 ·split at h
  ·rename_i qs hq;simp at h;obtain ⟨c,hc,rfl,rfl⟩:=h;exact z7 hq hc
  ·simp at h
 ·split at h
  ·rename_i qs hq;simp at h;obtain ⟨c,sz,hc,rfl,rfl⟩:=h;exact p5 lab hq hc hlab
  ·simp at h
 ·split at h
  ·rename_i p k T sz hp ho;simp at h;obtain ⟨v,h1,rfl,rfl⟩:=h;exact ke hp ho h1
  ·simp at h
 ·split at h
  ·rename_i cells k T sz hp ho;simp at h;obtain ⟨v,h1,rfl,rfl⟩:=h;exact z6 hp ho h1
  ·simp at h
 ·split at h
  ·rename_i vs hv;simp at h;obtain ⟨v,h1,rfl,rfl⟩:=h;exact vK hv h1
  ·simp at h
 ·split at h
  ·rename_i hs
   have:=F3 hs;subst this
   simp at h;obtain ⟨c,h1,rfl,rfl⟩:=h;exact tY h1
  ·simp at h
 ·split at h
  ·rename_i hi;simp at h;obtain ⟨v,h1,rfl,rfl⟩:=h;exact mn h1 hi
  ·simp at h
 ·split at h
  ·rename_i p hp
   split at h
   ·rename_i hn;simp at h;obtain ⟨rfl,rfl⟩:=h;exact oD hp hn
   ·simp at h
  ·simp at h
 ·split at h
  ·rename_i p k i hp hi
   simp at h;obtain ⟨v,h1,rfl,rfl⟩:=h
   unfold xidx at h1
   split at h1
   ·rename_i n e hu
    split at h1
    ·rename_i ie hie
     split at h1
     ·rename_i hh;exact fB hp hi hu hie hh.1 hh.2 h1
     ·simp at h1
    ·simp at h1
   ·rename_i e hu
    split at h1
    ·rename_i ie n hie hn
     split at h1
     ·rename_i hh;exact iF hp hi hu hie hn hh.1 hh.2 h1
     ·simp at h1
    ·simp at h1
   ·simp at h1
  ·simp at h
 ·split at h
  ·rename_i p k i hp hi
   simp at h;obtain ⟨v,h1,rfl,rfl⟩:=h
   unfold Gk at h1
   split at h1
   ·split at h1
    ·rename_i n e hu
     split at h1
     ·rename_i ie hie
      split at h1
      ·rename_i hh;exact ub hp hi hu hie hh.1 hh.2 h1
      ·simp at h1
     ·simp at h1
    ·simp at h1
   ·split at h1
    ·rename_i hu
     split at h1
     ·rename_i h0
      simp at h1;obtain ⟨c,hc,rfl⟩:=h1
      exact ua hp hi hu h0 hc
     ·simp at h1
    ·simp at h1
   ·simp at h1
  ·simp at h
 ·rename_i b args ts
  split at h
  ·rename_i p hp
   obtain ⟨xo,rfl,hx⟩:=Gl hp
   split at h
   ·rename_i t ht
    have:ts=#[t]:=by obtain ⟨l⟩:=ts;simp at ht;subst ht;rfl
    subst this
    split at h
    ·rename_i hl
     split at h
     ·rename_i m hm;simp at h;obtain ⟨rfl,rfl⟩:=h;exact Fh hx hm hl
     ·simp at h
    ·split at h
     ·rename_i n e hu;simp at h;obtain ⟨rfl,rfl⟩:=h;exact tZ hu
     ·rename_i u hu
      split at h
      ·rename_i n e hu2;simp at h;obtain ⟨rfl,rfl⟩:=h;exact oT hu hu2
      ·simp at h
     ·simp at h
   ·simp at h
  ·rename_i k m r hp;simp at h;obtain ⟨q,hq,rfl,rfl⟩:=h;exact Ff hp hq
  ·rename_i k m r hp;simp at h;obtain ⟨q,hq,rfl,rfl⟩:=h;exact Fg hp hq
  ·simp at h
def AC:Lb->Nat
 | []=>0
 | (k,_)::r=>max (k+1) (AC r)
theorem zt:∀(L:Lb) (l:Nat),AC L<=l->lget L l=none
 | [],l,_=>rfl
 | (k,y)::r,l,h=>by
  simp only [AC] at h
  simp only [lget]
  rw [if_neg (by omega)]
  exact zt r l (by omega)
def kJ (n:Nat):Option Tmp->Bool
 | some t=>decide (t<n)
 | none=>true
def xrun (P:Program) (G:List (Nat×List PV)) (n:Nat) (ops:Array Oper):Nat->List Oper->Al->Lb->Option (Al×Lb)
 | 0,_,al,L=>some (al,L)
 | _+1,[],al,L=>none
 | k+1,o::rest,al,L=>
  match ge ops al o with
  | some true=>match xop P G o al L (AC L) with
   | some (x,wl)=>if kJ n o.dst=true then xrun P G n ops k rest (oset o.dst x al) (lupd L wl) else none
   | none=>none
  | some false=>if kJ n o.dst=true then xrun P G n ops k rest (oset o.dst .dead al) L else none
  | none=>none
theorem iE {n:Nat} {d:Option Tmp} (h:kJ n d=true):∀t,d=some t->t<n:=by
 intro t ht;subst ht;simpa [kJ] using h
theorem nI {E:Env} {K:Nat->Prop} {n:Nat} {ops:Array Oper} {Q:Exit->Al->Lb->Prop}:∀(k:Nat) (rest:List Oper) (al:Al) (L:Lb) (al':Al) (L':Lb),xrun E.P E.G n ops k rest al L=some (al',L') ->
  AWl E K n ops (rest.drop k) Q al' L'->AWl E K n ops rest Q al L
 | 0,rest,al,L,al',L',h,hk=>by
  simp [xrun] at h;obtain ⟨rfl,rfl⟩:=h;exact hk
 | k+1,[],al,L,al',L',h,hk=>by simp [xrun] at h
 | k+1,o::rest,al,L,al',L',h,hk=>by
  simp only [xrun] at h
  split at h
  ·rename_i hw
   split at h
   ·rename_i x wl hx
    split at h
    ·rename_i hd
     refine pY (Gi (zt L _ (Nat.le_refl _)) hx) (iE hd) (fun _ _ h=>h) (fun _ _ h=>h) ?_ hw (nI k rest _ _ al' L' h hk)
     intro p hp
     by_cases hn:lget L p.1=none
     ·exact .inr hn
     ·exact .inl hn
    ·simp at h
   ·simp at h
  ·rename_i hw
   split at h
   ·rename_i hd;exact CP hw (iE hd) (nI k rest _ _ al' L' h hk)
   ·simp at h
  ·simp at h
def g5 (ts:List Nat) (al:Al):Al:=ts.filterMap fun t=>(lget al t).map fun x=>(t,x)
theorem KY {E:Env} {K:Nat->Prop} {n:Nat} {id:Nat} {ops:Array Oper} {Q:Exit->Al->Lb->Prop} {al:Al} {L:Lb} {al':Al} {L':Lb} (h:xrun E.P E.G n ops ops.size ops.toList al L=some (al',L')) (hq:Q .normal al' L') :
  AW E K n (.region id ops false) Q al L:=
 nJ (nI ops.size ops.toList al L al' L' h (by rw [List.drop_of_length_le (by simp)];exact qy hq))
end Go.SH
namespace Go.SH
section
variable {E:Env} {K:Nat->Prop} {n:Nat} {al:Al} {L:Lb} {Q:Exit->Al->Lb->Prop} {ops:Array Oper} {rest:List Oper}
theorem Hf {ts:List Nat} {al al':Al} (h:g5 ts al=al'):∀p∈al',lget al p.1=some p.2:=by
 subst h
 intro p hp
 simp only [g5,List.mem_filterMap,Option.map_eq_some_iff] at hp
 obtain ⟨t,_,x,h,rfl⟩:=hp
 exact h
theorem Weak.keep {ts:List Nat} {al':Al} (h:g5 ts al=al'):Weak E K al L al' L:=Weak.sub (Hf h)
def fZ (P:Program) (G:List (Nat×List PV)) (n:Nat) (ops:Array Oper) (ts:List Nat) (al:Al) (L:Lb):Option (Al×Lb):=
 (xrun P G n ops ops.size ops.toList al L).map fun s=>(g5 ts s.1,s.2)
theorem JE {id:Nat} (ts:List Nat) (al':Al) (L':Lb) (h:fZ E.P E.G n ops ts al L=some (al',L')) (hq:Q .normal al' L'):AW E K n (.region id ops false) Q al L:=by
 simp only [fZ,Option.map_eq_some_iff,Prod.mk.injEq] at h
 obtain ⟨⟨al1,L1⟩,h1,h2,rfl⟩:=h
 refine qA (KY (Q:=fun e al L=>e = .normal/\al=al1/\L=L1) h1 ⟨rfl,rfl,rfl⟩) ?_
 rintro e al L ⟨rfl,rfl,rfl⟩
 exact ⟨al',L,Weak.keep h2,hq⟩
theorem CR (ts:List Nat) (al':Al) (h:g5 ts al=al') (hq:Q .normal al' L):AWl E K n ops [] Q al L:=tW (Weak.keep h) (qy hq)
theorem Ih (ts:List Nat) (al':Al) (h:g5 ts al=al') (k:AWl E K n ops rest Q al' L):AWl E K n ops rest Q al L:=tW (Weak.keep h) k
theorem Ka {o:Oper} {x:PV} {wl:Lb} (h:AOp E o al L x wl) (hd:kJ n o.dst=true) (h3:wl.all (fun p=>(lget L p.1).isSome||(lget L p.1).isNone)=true) (hg:ge ops al o=some true)
  (k:AWl E K n ops rest Q (oset o.dst x al) (lupd L wl)):AWl E K n ops (o::rest) Q al L:=by
 refine pY h (iE hd) (fun _ _ h=>h) (fun _ _ h=>h) ?_ hg k
 intro p hp
 cases h1:lget L p.1 with
 | none=>exact .inr rfl
 | some y=>exact .inl (by simp)
theorem CS {t:Nat} {x y:Code} (hc:lget al t=some (.bool true)) (h:AW E K n x Q al L):AW E K n (.cond (.tmp t) x y) Q al L:=tX hc (fun _=>h) (by simp)
theorem yq {t:Nat} {x y:Code} (hc:lget al t=some (.bool false)) (h:AW E K n y Q al L):AW E K n (.cond (.tmp t) x y) Q al L:=tX hc (by simp) (fun _=>h)
theorem Weak.trim {al':Al} {L':Lb} (hs:∀p∈al',lget al p.1=some p.2) (hL:∀l y,lget L' l=some y->lget L l=some y) (hK:∀l,K l->lget L' l≠none\/lget L l=none)
  (hw:al'.all (fun p=>am (hasL L') p.2)=true) (hc:L'.all (fun p=>match p.2 with | some cells=>ag (hasL L') cells | none=>true)=true) (hG:GOK E):Weak E K al L al' L':=by
 intro A w σ a r
 let σ1:Sig:=⟨fun l=>if hasL L' l then σ l else none,σ.fam⟩
 have hS:∀l,hasL L' l=true->σ1 l=σ l:=fun l h=>by simp [σ1,h]
 have hlav:∀β,cd σ1 L' β->cd σ L β:=by
  rintro β ⟨l,cells,x,s,h1,h2⟩
  rw [hS l (by simp [hasL,h1])] at h2
  exact ⟨l,cells,x,s,hL _ _ h1,h2⟩
 have hav:∀β,avOf σ1 L' β->avOf σ L β:=fun β h=>h.imp (hlav β) id
 have havo:∀β,¬avo A σ L β->¬avo A σ1 L' β:=by
  rintro β hn (h | h)
  ·exact hn (.inl h)
  ·exact hn (.inr (hav β h))
 refine ⟨σ1,⟨fun t x hx=>?_,⟨fun l cells hl=>?_,?_,?_,?_,r.blocks.fr.mono (Nat.le_refl _) (fun _ _ _ k=>k) (fun _ _ _ _=>rfl) fun _ β _ _=>hlav β⟩,fun g cells hg=>Env.pureG hG hg (r.globals g cells hg) havo,r.nodefer⟩,⟨Nat.le_refl _,?_,fun β _ hn=>⟨fun ha=>hn (hav β ha),rfl⟩,⟨rfl,rfl,rfl⟩,fun _ _ _ _ h=>⟨h,rfl⟩⟩⟩
 ·have hm:=ai hx
  obtain ⟨v,h1,h2⟩:=r.tmps t x (hs _ hm)
  exact ⟨v,h1,h2.restrict hS (fun _ _ _ _ h=>h) havo (List.all_eq_true.1 hw _ hm)⟩
 ·have hm:=ai hl
  have hwc:=List.all_eq_true.1 hc _ hm
  simp only at hwc
  have hh:hasL L' l=true:=by simp [hasL,hl]
  rcases r.blocks.all l cells (hL _ _ hl) with ⟨h1,h2⟩ | ⟨β,add,size,c,T,fr,hB⟩
  ·exact .inl ⟨by rw [hS l hh];exact h1,h2⟩
  ·exact .inr ⟨β,add,size,c,T,fr,⟨by rw [hS l hh];exact hB.sig,hB.heap,hB.hsz,hB.fits,fun i x hx=>let ⟨v,h1,h2⟩:=hB.vals i x hx;⟨v,h1,h2.restrict hS (fun _ _ _ _ h=>h) havo (az hwc hx)⟩,hB.frs⟩⟩
 ·intro l l' c c' β a s a' s' h1 h2 h3 h4
  rw [hS l (by simp [hasL,h1])] at h3
  rw [hS l' (by simp [hasL,h2])] at h4
  exact r.blocks.inj l l' c c' β a s a' s' (hL _ _ h1) (hL _ _ h2) h3 h4
 ·intro l x h1
  by_cases hh:hasL L' l=true
  ·simp only [hasL,Option.isSome_iff_ne_none] at hh;exact hh
  ·simp [σ1,hh] at h1
 ·intro β hA
  obtain ⟨h1,h2⟩:=r.blocks.lo β hA
  exact ⟨h1,fun ha=>h2 (hav β ha)⟩
 ·intro l y hk hy
  rcases hK l hk with h | h
  ·rw [hS l (by simpa [hasL,Option.isSome_iff_ne_none] using h)];exact hy
  ·exact absurd h (r.blocks.dom l y hy)
end
inductive Outs (L:Lb):List PV->List PV->Prop where
 | nil:Outs L [] []
 | cons {x y:PV} {xs ys:List PV} (h:Out L x y) (hs:Outs L xs ys):Outs L (x::xs) (y::ys)
theorem Outs.get {L:Lb} {xs ys:List PV} (h:Outs L xs ys):∀(i:Nat) (x y:PV),xs[i]?=some x->ys[i]?=some y->Out L x y:=by
 induction h with
 | nil=>simp
 | cons h _ ih=>
  intro i x y hx hy
  cases i with
  | zero=>simp at hx hy;subst hx;subst hy;exact h
  | succ i=>exact ih i x y (by simpa using hx) (by simpa using hy)
theorem Outs.refl {L:Lb}:∀{xs:List PV},ag (fun _=>false) xs=true->Outs L xs xs
 | [],_=>.nil
 | x::xs,h=>by simp [ag] at h;exact .cons (.pure h.1) (Outs.refl h.2)
section
variable {E:Env} {d:Option Tmp} {ty:TypeId} {pos:String} {after:Array Edge} {g:Option (Nat×Bool)} {ra:Al} {rl:Lb}
theorem Gf {fo:Operand} {args:Array Operand} {ts:Array TypeId} {f:FuncId} {caps xs:List PV} {v:PV} (hG:GOK E) (hrun:∀args w,(callFunc f args).run E.P w = .ok (.enter f args) w)
  (hf:xev E.G ra fo=some (.fn f caps)) (hx:xevs E.G ra args.toList=some xs) (h:Pure E f (xs++caps) v) (hp:ag (fun _=>false) (xs++caps)=true):AOp E ⟨d,.call ⟨.value fo,args,ts⟩,ty,pos,after,g⟩ ra rl v []:=
 CY hf hx hrun hG rfl (Outs.refl hp).get h (.inl hp)
end
end Go.SH
namespace Go.SH
inductive AOps (E:Env):List Oper->List Fp->Prop where
 | nil:AOps E [] []
 | x {o:Oper} {f:Fp} {os:List Oper} {fs:List Fp} (lab:Nat) (hl:lget f.rl lab=none) (h:xop E.P E.G o f.ra f.rl lab=some (f.x,f.wl)) (r:AOps E os fs):AOps E (o::os) (f::fs)
 | o {o:Oper} {f:Fp} {os:List Oper} {fs:List Fp} (h:AOp E o f.ra f.rl f.x f.wl) (r:AOps E os fs):AOps E (o::os) (f::fs)
 | skip {o:Oper} {f:Fp} {os:List Oper} {fs:List Fp} (h:f.run=false) (r:AOps E os fs):AOps E (o::os) (f::fs)
end Go.SH
namespace Go.SH
open IntKind (i64 u64 i32 u8)
theorem bind_some {α β:Type} {x:Option α} {f:α->Option β} {r:β} (h:x.bind f=some r):∃v,x=some v/\f v=some r:=by
 cases x with
 | none=>simp at h
 | some v=>exact ⟨v,rfl,h⟩
theorem map_some {α β:Type} {x:Option α} {f:α->β} {r:β} (h:x.map f=some r):∃v,x=some v/\f v=r:=by
 cases x with
 | none=>simp at h
 | some v=>exact ⟨v,rfl,by simpa using h⟩
def req {α:Type} (c:Prop) [Decidable c] (x:Option α):Option α:=if c then x else none
theorem cR {α:Type} {c:Prop} [Decidable c] {x:Option α} {r:α} (h:req c x=some r):c/\x=some r:=by
 unfold req at h;split at h
 ·exact ⟨‹_›,h⟩
 ·simp at h
theorem ae {α:Type} {c:Prop} [Decidable c] {x:Option α} (h:c):req c x=x:=if_pos h
def getI {α:Type} (l:List α) (i:Int):Option α:=if 0<=i then l[i.toNat]? else none
theorem ql {α:Type} {l:List α} {i:Int} {x:α} (h:getI l i=some x):0<=i/\i<l.length/\l[i.toNat]?=some x:=by
 unfold getI at h
 split at h
 ·have:=(List.getElem?_eq_some_iff.1 h).1
  exact ⟨‹_›,by omega,h⟩
 ·simp at h
inductive Iter {S R:Type} (step:S->Option (Sum R S)):S->R->Prop where
 | done {s:S} {r:R} (h:step s=some (.inl r)):Iter step s r
 | more {s s':S} {r:R} (h:step s=some (.inr s')) (k:Iter step s' r):Iter step s r
theorem Iter.det {S R:Type} {step:S->Option (Sum R S)} {s:S} {r r':R} (h:Iter step s r):Iter step s r'->r=r':=by
 induction h with
 | done h=>intro h';cases h' with
  | done h'=>rw [h] at h';simpa using h'
  | more h'=>rw [h] at h';simp at h'
 | more h _ ih=>intro h';cases h' with
  | done h'=>rw [h] at h';simp at h'
  | more h' k'=>rw [h] at h';simp at h';subst h';exact ih k'
open Classical in
def Hb {S R:Type} (step:S->Option (Sum R S)) (s:S):Option R:=if h:∃r,Iter step s r then some h.choose else none
theorem FE {S R:Type} {step:S->Option (Sum R S)} {s:S} {r:R}:Hb step s=some r<->Iter step s r:=by
 unfold Hb
 split
 ·rename_i h
  constructor
  ·intro e;simp at e;rw [<-e];exact h.choose_spec
  ·intro e;simp;exact h.choose_spec.det e
 ·rename_i h
  constructor
  ·simp
  ·intro e;exact absurd ⟨r,e⟩ h
def xr {S R:Type} (step:S->Option (Sum R S)) (n:Nat):S->Option (Option R):=
 Nat.rec (motive:=fun _=>S->Option (Option R)) (fun _=>none) (fun _ ih s=>match step s with
  | none=>some none
  | some (.inl r)=>some (some r)
  | some (.inr s')=>ih s') n
theorem xp {S R:Type} {step:S->Option (Sum R S)}:∀(n:Nat) {s:S} {r:R},xr step n s=some (some r)->Iter step s r
 | 0,s,r,h=>by simp [xr] at h
 | n+1,s,r,h=>by
  have h':(match step s with | none=>some none | some (.inl r)=>some (some r) | some (.inr s')=>xr step n s')=some (some r):=h
  split at h'
  ·simp at h'
  ·rename_i hs;simp at h';subst h';exact .done hs
  ·rename_i hs;exact .more hs (xp n h')
theorem xq {S R:Type} {step:S->Option (Sum R S)}:∀(n:Nat) {s:S},xr step n s=some none->∀r,¬Iter step s r
 | 0,s,h,_=>by simp [xr] at h
 | n+1,s,h,r=>by
  have h':(match step s with | none=>some none | some (.inl r)=>some (some r) | some (.inr s')=>xr step n s')=some none:=h
  intro hi
  split at h'
  ·rename_i hs
   cases hi with
   | done e=>rw [hs] at e;simp at e
   | more e _=>rw [hs] at e;simp at e
  ·simp at h'
  ·rename_i hs
   cases hi with
   | done e=>rw [hs] at e;simp at e
   | more e k=>rw [hs] at e;simp at e;subst e;exact xq n h' r k
def aH {S R:Type} (step:S->Option (Sum R S)) (s:S):Option R:=match xr step 1000000000000 s with
 | some o=>o
 | none=>Hb step s
theorem jT {S R:Type} {step:S->Option (Sum R S)} {s:S} {r:R}:aH step s=some r<->Iter step s r:=by
 unfold aH
 split
 ·rename_i o h
  cases o with
  | none=>simp;exact xq _ h r
  | some r'=>
   have:=xp _ h
   constructor
   ·intro e;simp at e;subst e;exact this
   ·intro e;rw [this.det e]
 ·exact FE
theorem aL {S R:Type} (step:S->Option (Sum R S)) (s:S):aH step s=match step s with | none=>none | some (.inl r)=>some r | some (.inr s')=>aH step s':=by
 cases hs:step s with
 | none=>
  cases h:aH step s with
  | none=>rfl
  | some r=>rw [jT] at h;cases h with
   | done h=>rw [h] at hs;simp at hs
   | more h=>rw [h] at hs;simp at hs
 | some o=>
  cases o with
  | inl r=>exact jT.2 (.done hs)
  | inr s'=>
   show aH step s=aH step s'
   cases h:aH step s' with
   | none=>
    cases h2:aH step s with
    | none=>rfl
    | some r=>rw [jT] at h2;cases h2 with
     | done h2=>rw [h2] at hs;simp at hs
     | more h2 k=>rw [h2] at hs;simp at hs;subst hs;rw [jT.2 k] at h;simp at h
   | some r=>exact jT.2 (.more hs (jT.1 h))
inductive Ren (τ:Nat->Nat) (S:Nat->Bool):PV->PV->Prop where
 | pure {x:PV} (h:pureF x=true):Ren τ S x x
 | rw {l l' off n sz:Nat} {co:Option Nat} (h:S l'=true) (e:τ l'=l):Ren τ S (.rw l off n sz co) (.rw l' off n sz co)
 | ptr {l l' off:Nat} (h:S l'=true) (e:τ l'=l):Ren τ S (.ptr l off) (.ptr l' off)
 | agg {xs ys:List PV} (hl:xs.length=ys.length) (h:∀(i:Nat) (x y:PV),xs[i]?=some x->ys[i]?=some y->Ren τ S x y):Ren τ S (.agg xs) (.agg ys)
 | tup {xs ys:List PV} (hl:xs.length=ys.length) (h:∀(i:Nat) (x y:PV),xs[i]?=some x->ys[i]?=some y->Ren τ S x y):Ren τ S (.tup xs) (.tup ys)
 | fn {f:FuncId} {xs ys:List PV} (hl:xs.length=ys.length) (h:∀(i:Nat) (x y:PV),xs[i]?=some x->ys[i]?=some y->Ren τ S x y):Ren τ S (.fn f xs) (.fn f ys)
 | iface {t:TypeId} {x y:PV} (h:Ren τ S x y):Ren τ S (.iface t x) (.iface t y)
 | yld {n:Nat} {ps:List Nat} {a b:Code} {ts:List Nat} {xs ys:List PV} (hy:S ylab=true) (hl:xs.length=ys.length) (h:∀(i:Nat) (x y:PV),xs[i]?=some x->ys[i]?=some y->Ren τ S x y):Ren τ S (.yld n ps a b ts xs) (.yld n ps a b ts ys)
 | nilsRo:Ren τ S .nils (.ro [] 0 none)
 | nilsFs {q:Nat}:Ren τ S .nils (.fs q [] 0 none)
 | niliEv {T:TypeId}:Ren τ S .nili (.ev T none)
 | nilsRw {l sz:Nat} (h:S l=true):Ren τ S .nils (.rw l 0 0 sz none)
 | roCo {cells:List PV} {n:Nat} {co:Option Nat} (h:bY cells=true):Ren τ S (.ro cells n co) (.ro cells n none)
 | rwCo {l l' off n sz:Nat} {co:Option Nat} (h:S l'=true) (e:τ l'=l):Ren τ S (.rw l off n sz co) (.rw l' off n sz none)
theorem i7 {α β:Type} {xs:List α} {ys:List β} {i:Nat} {y:β} (hl:xs.length=ys.length) (hy:ys[i]?=some y):i<xs.length:=by
 rw [hl];exact (List.getElem?_eq_some_iff.1 hy).1
theorem VR.ren {w:World} {σ σ1:Sig} {av av1:Nat->Prop} {τ:Nat->Nat} {S:Nat->Bool} (hS:∀l,S l=true->σ1 l=σ (τ l)) (hF:∀q β add,σ.fam q β add->σ1.fam q β add) (hav:∀β,¬av β->¬av1 β) {x y:PV} (hr:Ren τ S x y) :
  ∀{v:Value},VR w σ av x v->VR w σ1 av1 y v:=by
 induction hr with
 | pure h=>intro v hv;exact hv.pureF hF hav h
 | rw h e=>
  intro v hv;cases hv with
  | rwE a hc=>exact .rwE a hc
  | rw hs hn hc hsz=>exact .rw (by rw [hS _ h,e];exact hs) hn hc hsz
 | ptr h e=>intro v hv;cases hv with | ptr hs=>exact .ptr (by rw [hS _ h,e];exact hs)
 | agg hl _ ih=>
  intro v hv;cases hv with
  | agg cs hl2 hv=>exact .agg cs (by omega) fun i y u hy hu=>ih i _ y (List.getElem?_eq_getElem (i7 hl hy)) hy (hv i _ u (List.getElem?_eq_getElem (i7 hl hy)) hu)
 | tup hl _ ih=>
  intro v hv;cases hv with
  | tup cs hl2 hv=>exact .tup cs (by omega) fun i y u hy hu=>ih i _ y (List.getElem?_eq_getElem (i7 hl hy)) hy (hv i _ u (List.getElem?_eq_getElem (i7 hl hy)) hu)
 | fn hl _ ih=>
  intro v hv;cases hv with
  | fn f cs hl2 hv=>exact .fn _ cs (by omega) fun i y u hy hu=>ih i _ y (List.getElem?_eq_getElem (i7 hl hy)) hy (hv i _ u (List.getElem?_eq_getElem (i7 hl hy)) hu)
 | yld _ hl _ ih=>
  intro v hv;cases hv with
  | yld l fn dfr tmps cs hn hl1 hz hc ht hv=>exact .yld l fn dfr tmps cs (hav _ hn) hl1 hz (by omega) ht fun i y u hy hu=>ih i _ y (List.getElem?_eq_getElem (i7 hl hy)) hy (hv i _ u (List.getElem?_eq_getElem (i7 hl hy)) hu)
 | iface _ ih=>intro v hv;cases hv with | iface t u h=>exact .iface _ _ (ih (by assumption))
 | nilsRo=>intro v hv;cases hv;exact .roE _ _ (by simp)
 | nilsFs=>intro v hv;cases hv;exact .fsE _ _ (by simp)
 | niliEv=>intro v hv;cases hv;exact .ev _ none (by simp)
 | nilsRw h=>intro v hv;cases hv;exact .rwE _ (by simp)
 | @roCo cells n co h=>
  intro v hv
  have h2:=hv.pureF (av1:=av1) (σ1:=σ1) hF hav (by simpa [Go.SH.pureF] using h)
  cases h2 with
  | roE a cap hc=>exact .roE _ _ (by simp)
  | ro cs him hl hv2 hn hc=>exact .ro cs him hl hv2 hn (by simp)
 | rwCo h e=>
  intro v hv;cases hv with
  | rwE a hc=>exact .rwE a (by simp)
  | rw hs hn hc hsz=>exact .rw (by rw [hS _ h,e];exact hs) hn (by simp) hsz
inductive RenC (τ:Nat->Nat) (S:Nat->Bool):List PV->List PV->Prop where
 | pure {xs:List PV} (h:bY xs=true):RenC τ S xs xs
 | nil:RenC τ S [] []
 | cons {x y:PV} {xs ys:List PV} (h:Ren τ S x y) (r:RenC τ S xs ys):RenC τ S (x::xs) (y::ys)
theorem RenC.get {τ:Nat->Nat} {S:Nat->Bool} {xs ys:List PV} (h:RenC τ S xs ys):xs.length=ys.length/\∀(i:Nat) (x y:PV),xs[i]?=some x->ys[i]?=some y->Ren τ S x y:=by
 induction h with
 | pure h=>exact ⟨rfl,fun i x y hx hy=>by rw [hx] at hy;simp at hy;subst hy;exact .pure (gn h hx)⟩
 | nil=>simp
 | cons h _ ih=>
  refine ⟨by simp [ih.1],fun i x y hx hy=>?_⟩
  cases i with
  | zero=>simp at hx hy;subst hx;subst hy;exact h
  | succ i=>exact ih.2 i x y (by simpa using hx) (by simpa using hy)
inductive RenA (τ:Nat->Nat) (S:Nat->Bool) (al:Al):Al->Prop where
 | nil:RenA τ S al []
 | cons {t:Nat} {x y:PV} {r:Al} (h:lget al t=some x) (hr:Ren τ S x y) (k:RenA τ S al r):RenA τ S al ((t,y)::r)
inductive RenB (τ:Nat->Nat) (S:Nat->Bool) (L:Lb):Lb->Prop where
 | nil:RenB τ S L []
 | cons {l:Nat} {xs ys:List PV} {r:Lb} (h:lget L (τ l)=some (some xs)) (hr:RenC τ S xs ys) (k:RenB τ S L r):RenB τ S L ((l,some ys)::r)
 | fresh {l:Nat} {r:Lb} (h:lget L (τ l)=none) (k:RenB τ S L r):RenB τ S L ((l,some [])::r)
 | gone {l:Nat} {r:Lb} (k:RenB τ S L r):RenB τ S L ((l,none)::r)
theorem RenA.get {τ:Nat->Nat} {S:Nat->Bool} {al al':Al} (h:RenA τ S al al'):∀p∈al',∃x,lget al p.1=some x/\Ren τ S x p.2:=by
 induction h with
 | nil=>simp
 | cons h hr _ ih=>
  intro p hp;rcases List.mem_cons.1 hp with rfl | hp
  ·exact ⟨_,h,hr⟩
  ·exact ih p hp
theorem RenB.get {τ:Nat->Nat} {S:Nat->Bool} {L L':Lb} (h:RenB τ S L L'):∀p∈L',(∀ys,p.2=some ys->(∃xs,lget L (τ p.1)=some (some xs)/\RenC τ S xs ys)\/(lget L (τ p.1)=none/\ys=[])):=by
 induction h with
 | nil=>simp
 | cons h hr _ ih=>
  intro p hp;rcases List.mem_cons.1 hp with rfl | hp
  ·exact fun ys e=>by simp at e;subst e;exact .inl ⟨_,h,hr⟩
  ·exact ih p hp
 | fresh h _ ih=>
  intro p hp;rcases List.mem_cons.1 hp with rfl | hp
  ·exact fun ys e=>by simp at e;subst e;exact .inr ⟨h,rfl⟩
  ·exact ih p hp
 | gone _ ih=>
  intro p hp;rcases List.mem_cons.1 hp with rfl | hp
  ·exact fun ys e=>by simp at e
  ·exact ih p hp
def lk (m:List (Nat×Nat)) (l:Nat):Nat:=match lget m l with | some x=>x | none=>l
def GP (m:List (Nat×Nat)) (L L':Lb) (ks:List Nat):Bool:=
 (L'.all fun p=>L'.all fun q=>!p.2.isSome || !q.2.isSome||decide (lk m p.1=lk m q.1->p.1=q.1))&&ks.all fun l=>decide (lk m l=l)&&hasL L' l
theorem Weak.ren {E:Env} {K:Nat->Prop} {al al':Al} {L L':Lb} (m:List (Nat×Nat)) (ks:List Nat) (ha:RenA (lk m) (hasL L') al al') (hb:RenB (lk m) (hasL L') L L') (hok:GP m L L' ks=true)
  (hK:∀l,K l->l∈ks) (hG:GOK E):Weak E K al L al' L':=by
 intro A w σ a r
 let σ1:Sig:=⟨fun l=>if hasL L' l then σ (lk m l) else none,σ.fam⟩
 have hS:∀l,hasL L' l=true->σ1 l=σ (lk m l):=fun l h=>by simp [σ1,h]
 have hget:=hb.get
 have hgl:∀l cells,lget L' l=some (some cells)->(∃xs,lget L (lk m l)=some (some xs)/\RenC (lk m) (hasL L') xs cells)\/(lget L (lk m l)=none/\cells=[]):=fun l cells hl=>hget _ (ai hl) _ rfl
 have hlav:∀β,cd σ1 L' β->cd σ L β:=by
  rintro β ⟨l,cells,x,s,h1,h2⟩
  rw [hS l (by simp [hasL,h1])] at h2
  rcases hgl l cells h1 with ⟨xs,h3,_⟩ | ⟨h3,_⟩
  ·exact ⟨_,xs,x,s,h3,h2⟩
  ·exact absurd h3 (r.blocks.dom _ _ h2)
 have hav:∀β,avOf σ1 L' β->avOf σ L β:=fun β h=>h.imp (hlav β) id
 have havo:∀β,¬avo A σ L β->¬avo A σ1 L' β:=by
  rintro β hn (h | h)
  ·exact hn (.inl h)
  ·exact hn (.inr (hav β h))
 simp only [GP,Bool.and_eq_true,List.all_eq_true,decide_eq_true_eq] at hok
 refine ⟨σ1,⟨fun t x hx=>?_,⟨fun l cells hl=>?_,?_,?_,?_,r.blocks.fr.mono (Nat.le_refl _) (fun _ _ _ k=>k) (fun _ _ _ _=>rfl) fun _ β _ _=>hlav β⟩,fun g cells hg=>Env.pureG hG hg (r.globals g cells hg) havo,r.nodefer⟩,⟨Nat.le_refl _,?_,fun β _ hn=>⟨fun ha=>hn (hav β ha),rfl⟩,⟨rfl,rfl,rfl⟩,fun _ _ _ _ h=>⟨h,rfl⟩⟩⟩
 ·obtain ⟨y,h1,h2⟩:=ha.get _ (ai hx)
  obtain ⟨v,h3,h4⟩:=r.tmps t y h1
  exact ⟨v,h3,h4.ren hS (fun _ _ _ h=>h) havo h2⟩
 ·have hh:hasL L' l=true:=by simp [hasL,hl]
  rcases hgl l cells hl with ⟨xs,h1,h2⟩ | ⟨h1,h2⟩
  rotate_left
  ·refine .inl ⟨?_,h2⟩
   rw [hS l hh]
   cases hc:σ (lk m l) with
   | none=>rfl
   | some y=>exact absurd h1 (r.blocks.dom _ _ hc)
  obtain ⟨e1,e2⟩:=h2.get
  rcases r.blocks.all _ xs h1 with ⟨h3,h4⟩ | ⟨β,add,size,c,T,fr,hB⟩
  ·exact .inl ⟨by rw [hS l hh];exact h3,by subst h4;simpa using e1.symm⟩
  ·refine .inr ⟨β,add,size,c,T,fr,⟨by rw [hS l hh];exact hB.sig,hB.heap,hB.hsz,e1▸hB.fits,fun i y hy=>?_,hB.frs⟩⟩
   have hi:i<xs.length:=by rw [e1];exact (List.getElem?_eq_some_iff.1 hy).1
   obtain ⟨v,h5,h6⟩:=hB.vals i _ (List.getElem?_eq_getElem hi)
   exact ⟨v,h5,h6.ren hS (fun _ _ _ h=>h) havo (e2 i _ y (List.getElem?_eq_getElem hi) hy)⟩
 ·intro l l' c c' β a s a' s' h1 h2 h3 h4
  rw [hS l (by simp [hasL,h1])] at h3
  rw [hS l' (by simp [hasL,h2])] at h4
  rcases hgl l c h1 with ⟨xs,h5,_⟩ | ⟨h5,_⟩
  rotate_left
  ·exact absurd h5 (r.blocks.dom _ _ h3)
  rcases hgl l' c' h2 with ⟨ys,h6,_⟩ | ⟨h6,_⟩
  rotate_left
  ·exact absurd h6 (r.blocks.dom _ _ h4)
  have:=hok.1 _ (ai h1) _ (ai h2)
  simp at this
  rcases this with h | h
  ·exact absurd (r.blocks.inj _ _ xs ys β a s a' s' h5 h6 h3 h4) h
  ·exact h
 ·intro l x h1
  by_cases hh:hasL L' l=true
  ·simp only [hasL,Option.isSome_iff_ne_none] at hh;exact hh
  ·simp [σ1,hh] at h1
 ·intro β hA
  obtain ⟨h1,h2⟩:=r.blocks.lo β hA
  exact ⟨h1,fun ha=>h2 (hav β ha)⟩
 ·intro l y hk hy
  obtain ⟨h1,h2⟩:=hok.2 l (hK l hk)
  rw [hS l h2,h1];exact hy
section
variable {E:Env} {K:Nat->Prop} {n:Nat} {al:Al} {L:Lb} {Q:Exit->Al->Lb->Prop}
inductive Meet (E:Env) (K:Nat->Prop) {N O:Type} (Sal:N->Al) (Sl:N->Lb) (Q:Exit->Al->Lb->Prop):Sum N O->Exit->Al->Lb->Prop where
 | on {m:N} {al:Al} {L:Lb} (h:Weak E K al L (Sal m) (Sl m)):Meet E K Sal Sl Q (.inl m) .normal al L
 | off {o:O} {e:Exit} {al:Al} {L:Lb} (he:e ≠ .normal) (h:Q e al L):Meet E K Sal Sl Q (.inr o) e al L
inductive Round (E:Env) (K:Nat->Prop) {S X:Type} (Sal:S->Al) (Sl:S->Lb) (LX:X->Exit->Al->Lb->Prop):Sum X S->Exit->Al->Lb->Prop where
 | on {s:S} {al:Al} {L:Lb} (h:Weak E K al L (Sal s) (Sl s)):Round E K Sal Sl LX (.inr s) .normal al L
 | off {x:X} {e:Exit} {al:Al} {L:Lb} (he:e ≠ .normal) (h:LX x e al L):Round E K Sal Sl LX (.inl x) e al L
theorem Ik {c:Code} {S X:Type} (step:S->Option (Sum X S)) (Sal:S->Al) (Sl:S->Lb) (LX:X->Exit->Al->Lb->Prop) {s0:S} {x:X} (h:aH step s0=some x) (h0:Weak E K al L (Sal s0) (Sl s0))
  (round:∀s o,step s=some o->AW E K n c (Round E K Sal Sl LX o) (Sal s) (Sl s)) (post:∀e al L,LX x e al L->e ≠ .normal->∃al' L',Weak E K al L al' L'/\Q e al' L'):AW E K n (.loop c) Q al L:=by
 have hit:=jT.1 h
 clear h
 refine cY h0 (qA (Q':=fun e al L=>e ≠ .normal/\LX x e al L) ?_ fun e al L hq=>post e al L hq.2 hq.1)
 clear post h0
 intro A w σ a r t b k cs hro hb hrm
 have key:∀s,Iter step s x->∀w σ a,Rel E A w σ (Sal s) (Sl s) a->a.tmps.size=n ->
   ∃e a' w',Post E K A w σ (Sl s) n (fun e al L=>e ≠ .normal/\LX x e al L) e a' w'/\ArrivesIn (Machine.fenced E.P (fen E.ro)) E.P (lone (b.atR a (.code c :: .inLoop c::k)) cs w) b k cs e a' w':=by
  intro s hs
  clear hit
  induction hs with
  | @done s x h=>
   intro w σ a hr ht
   obtain ⟨e,a₁,w₁,⟨al₁,L₁,σ₁,q,r₁,g₁,t₁⟩,harr⟩:=round s _ h A w σ a hr ht b (.inLoop c::k) cs hro hb hrm
   cases q with
   | off he hq=>
    refine ⟨e,a₁,w₁,⟨al₁,L₁,σ₁,⟨he,hq⟩,r₁,g₁,t₁⟩,?_⟩
    cases e with
    | normal=>exact absurd rfl he
    | _=>exact .pass (x:=.inLoop c) rfl (fun _ _=>.inl (by simp)) harr
  | @more s s' x h _ ih=>
   intro w σ a hr ht
   obtain ⟨e,a₁,w₁,⟨al₁,L₁,σ₁,q,r₁,g₁,t₁⟩,harr⟩:=round s _ h A w σ a hr ht b (.inLoop c::k) cs hro hb hrm
   cases q with
   | on hw=>
    obtain ⟨σ₂,r₂,g₂⟩:=hw A w₁ σ₁ a₁ r₁
    obtain ⟨e₂,a₂,w₂,hq₂,harr₂⟩:=ih w₁ σ₂ a₁ r₂ t₁
    exact ⟨e₂,a₂,w₂,Post.trans (g₁.trans g₂) hq₂,.of_steps (StepsIn.trans harr (.one (fenced_calm hb hrm rfl) stepR_inLoop)) harr₂⟩
 obtain ⟨e,a',w',hq,harr⟩:=key _ hit w σ a r t
 exact ⟨e,a',w',hq,.of_steps (.one (fenced_calm hb hrm rfl) stepR_loop) harr⟩
end
end Go.SH
namespace Go.SH
open IntKind (i64 u64 i32 u8)
section
variable {E:Env} {K:Nat->Prop} {n:Nat} {al al':Al} {L L':Lb} {Q:Exit->Al->Lb->Prop} {N:Al->Lb->Prop}
end
theorem It (x:Int):u8.wrap x=((UInt8.ofInt x).toNat:Int):=by
 have h:u8.wrap x=x % 256:=by simp [IntKind.wrap,IntKind.signed,IntKind.bits]
 rw [h]
 simp [UInt8.ofInt]
 omega
end Go.SH
namespace Go.SH
structure El (α:Type) where
 pv:α->List PV
 sz:Nat
 hsz:∀x,(pv x).length=sz
 hpos:0<sz
 hpure:∀x,bY (pv x)=true
 hone:∀x,(pv x).all PV.one=true
def fl {α:Type} (e:El α) (l:List α):List PV:=l.flatMap e.pv
def eI (k:IntKind):El Int:=⟨fun x=>[.int k x],1,fun _=>rfl,by decide,fun _=>rfl,fun _=>rfl⟩
def eU8:El UInt8:=⟨fun x=>[.int .u8 x.toNat],1,fun _=>rfl,by decide,fun _=>rfl,fun _=>rfl⟩
def eB:El Bool:=⟨fun x=>[.bool x],1,fun _=>rfl,by decide,fun _=>rfl,fun _=>rfl⟩
def eS:El (List UInt8):=⟨fun x=>[.str x],1,fun _=>rfl,by decide,fun _=>rfl,fun _=>rfl⟩
section
variable {α:Type} {e:El α}
@[simp] theorem rO:fl e []=[]:=rfl
theorem cj (x:α) (l:List α):fl e (x::l)=e.pv x++fl e l:=by simp [fl]
theorem qm (a b:List α):fl e (a++b)=fl e a++fl e b:=by simp [fl]
theorem bD (l:List α):(fl e l).length=l.length*e.sz:=by
 induction l with
 | nil=>simp
 | cons x l ih=>rw [cj,List.length_append,ih,e.hsz,List.length_cons,Nat.succ_mul];omega
theorem em (l:List α):bY (fl e l)=true:=by
 rw [fE,List.all_eq_true]
 intro x hx
 obtain ⟨y,_,hy⟩:=List.mem_flatMap.1 hx
 have:=e.hpure y
 rw [fE,List.all_eq_true] at this
 exact this x hy
theorem Dx (l:List α):(fl e l).all PV.one=true:=by
 rw [List.all_eq_true]
 intro x hx
 obtain ⟨y,_,hy⟩:=List.mem_flatMap.1 hx
 exact List.all_eq_true.1 (e.hone y) x hy
theorem AE (l:List α) (i:Nat):(fl e l).drop (i*e.sz)=fl e (l.drop i):=by
 induction l generalizing i with
 | nil=>simp
 | cons x l ih=>
  cases i with
  | zero=>simp
  | succ i=>
   rw [cj,List.drop_succ_cons,<-ih,List.drop_append,e.hsz]
   have:(i+1)*e.sz-e.sz=i*e.sz:=by rw [Nat.succ_mul];omega
   rw [this,List.drop_eq_nil_of_le (by rw [e.hsz,Nat.succ_mul];omega),List.nil_append]
theorem wu (l:List α) (i:Nat):(fl e l).take (i*e.sz)=fl e (l.take i):=by
 induction l generalizing i with
 | nil=>simp
 | cons x l ih=>
  cases i with
  | zero=>simp
  | succ i=>
   rw [cj,List.take_succ_cons,cj,<-ih,List.take_append,e.hsz]
   have:(i+1)*e.sz-e.sz=i*e.sz:=by rw [Nat.succ_mul];omega
   rw [this,List.take_of_length_le (by rw [e.hsz,Nat.succ_mul];omega)]
theorem xM {l:List α} {i:Nat} {x:α} (h:l[i]?=some x):fl e l=fl e (l.take i)++(e.pv x++fl e (l.drop (i+1))):=by
 have hi:=(List.getElem?_eq_some_iff.1 h).1
 have hx:=(List.getElem?_eq_some_iff.1 h).2
 conv=>lhs;rw [<-List.take_append_drop i l,List.drop_eq_getElem_cons hi,hx,qm,cj]
theorem AD {l:List α} {i k:Nat} {x:α} (h:l[i]?=some x) (hk:k<e.sz):(fl e l)[i*e.sz+k]?=(e.pv x)[k]?:=by
 have hi:=(List.getElem?_eq_some_iff.1 h).1
 have hl:(fl e (l.take i)).length=i*e.sz:=by rw [bD,List.length_take,Nat.min_eq_left (by omega)]
 rw [xM h,List.getElem?_append_right (by omega),hl,Nat.add_sub_cancel_left,List.getElem?_append_left (by rw [e.hsz];exact hk)]
theorem I8 {l:List α} {i k m:Nat} {x:α} (h:l[i]?=some x) (hk:k+m<=e.sz):((fl e l).drop (i*e.sz+k)).take m=((e.pv x).drop k).take m:=by
 apply List.ext_getElem?
 intro j
 rw [List.getElem?_take,List.getElem?_take]
 split
 ·rw [List.getElem?_drop,List.getElem?_drop,Nat.add_assoc,AD h (by omega)]
 ·rfl
theorem J1 {l:List α} {i:Nat} {x:α} (h:l[i]?=some x):i*e.sz+e.sz<=(fl e l).length:=by
 have hi:=(List.getElem?_eq_some_iff.1 h).1
 rw [bD,<-Nat.succ_mul]
 exact Nat.mul_le_mul_right _ hi
end
theorem rZ (s:List UInt8):tR s=fl eU8 s:=by
 induction s with
 | nil=>rfl
 | cons b s ih=>rw [cj,<-ih];rfl
theorem Km (s:List UInt8):(s.map fun b=>PV.int .u8 b.toNat)=fl eU8 s:=rZ s
def sub {α:Type} (l:List α) (a b:Nat):List α:=(l.drop a).take (b-a)
theorem Da {α:Type} {l:List α} {a b:Nat} (h:b<=l.length):(sub l a b).length=b-a:=by simp [sub];omega
theorem Kz {α:Type} {e:El α} (l:List α) (a b:Nat):((fl e l).drop (a*e.sz)).take ((b-a)*e.sz)=fl e (sub l a b):=by rw [AE,wu];rfl
section
variable {E:Env} {d:Option Tmp} {ty:TypeId} {pos:String} {after:Array Edge} {g:Option (Nat×Bool)} {ra:Al} {rl:Lb} {α:Type} {e:El α}
theorem CV {T t:TypeId} {ie:TypeInfo} {x:Operand} {lo hi:Option Operand} {l:List α} {n a b m:Nat} {co:Option Nat} (hx:xev E.G ra x=some (.ro (fl e l) n co)) (hn:n=l.length) (hT:E.P.underlying T=some (.slice t)) (he:E.P.info? t=some ie)
  (hs:ie.size=e.sz) (hl:bnd E.G ra lo 0 a) (hh:bnd E.G ra hi l.length b) (hle:a<=b) (hle':b<=l.length) (hm:(sub l a b).length=m) :
  AOp E ⟨d,.slice T x lo hi none,ty,pos,after,g⟩ ra rl (.ro (fl e (sub l a b)) m none) []:=by
 subst hn;subst hm
 refine zZ hx hT he rfl hl hh hle hle' ?_ (by rw [hs];exact e.hpos) ?_
 ·rw [Da hle',hs];simp only [wF,Kz]
 ·intro cells m co h;simp at h;obtain ⟨rfl,rfl,_⟩:=h;rw [bD,hs]
theorem Jo {G:List (Nat×List PV)} {o:Operand} {k:IntKind} {i:Int} {dflt:Nat} (h:xev G ra o=some (.int k i)) (h0:0<=i):bnd G ra (some o) dflt i.toNat:=⟨k,by rw [h,Int.toNat_of_nonneg h0]⟩
theorem yT {T:TypeId} {x:Operand} {lo hi:Option Operand} {s:List UInt8} {a b:Nat} (hx:xev E.G ra x=some (.str s)) (hT:E.P.underlying T=some .string)
  (hl:bnd E.G ra lo 0 a) (hh:bnd E.G ra hi s.length b) (hle:a<=b) (hle':b<=s.length):AOp E ⟨d,.slice T x lo hi none,ty,pos,after,g⟩ ra rl (.str (sub s a b)) []:=Bg hx hT hl hh hle hle'
theorem Ed {T:TypeId} {x ix:Operand} {s:List UInt8} {k:IntKind} {i:Int} {c:UInt8} (hx:xev E.G ra x=some (.str s)) (hi:xev E.G ra ix=some (.int k i)) (hT:E.P.underlying T=some .string)
  (hg:getI s i=some c):AOp E ⟨d,.index T x ix,ty,pos,after,g⟩ ra rl (.int .u8 c.toNat) []:=
 ua hx hi hT (ql hg).1 (ql hg).2.2
inductive Src (E:Env) (rl:Lb) (e:El α) (tx:TypeId):PV->List α->Prop where
 | nils {t:TypeId} (h:E.P.underlying tx=some (.slice t)):Src E rl e tx .nils []
 | ro {t:TypeId} {l:List α} {n:Nat} {co:Option Nat} (h:E.P.underlying tx=some (.slice t)) (hn:n=l.length):Src E rl e tx (.ro (fl e l) n co) l
 | rw {t:TypeId} {lab off n s:Nat} {co:Option Nat} {l:List α} {cells:List PV} (h:E.P.underlying tx=some (.slice t)) (hl:lget rl lab=some (some cells)) (hc:(cells.drop off).take (n*s)=fl e l) (hs:s=e.sz) (hn:n=l.length):Src E rl e tx (.rw lab off n s co) l
inductive Dst (rl:Lb) (e:El α):PV->List α->List (Nat×Option (List PV))->Prop where
 | nils:Dst rl e .nils [] []
 | roE:Dst rl e (.ro [] 0 (some 0)) [] []
 | own {lab n:Nat} {s:Nat} {co:Option Nat} {l:List α} {cells:List PV} (hl:lget rl lab=some (some cells)) (hc:cells=fl e l) (hs:s=e.sz) (hn:n=l.length):Dst rl e (.rw lab 0 n s co) l [(lab,none)]
end
end Go.SH
namespace Go.SH
section
variable {E:Env} {d:Option Tmp} {ty:TypeId} {pos:String} {after:Array Edge} {g:Option (Nat×Bool)} {ra:Al} {rl:Lb}
theorem Gq {P:Program} {T:TypeId} {x y:Operand} {k:IntKind} {n m:Int} (h:m≠0):xbin P .quo T x y (.int k n) (.int k m)=some (.int k (k.wrap (n.tdiv m))):=by
 show (if k=k then (if m=0 then none else some (PV.int k (k.wrap (n.tdiv m)))) else none)=_
 simp [h]
theorem Gp {P:Program} {T:TypeId} {x y:Operand} {k:IntKind} {n m:Int} (h:m≠0):xbin P .rem T x y (.int k n) (.int k m)=some (.int k (n.tmod m)):=by
 show (if k=k then (if m=0 then none else some (PV.int k (n.tmod m))) else none)=_
 simp [h]
theorem Gn {P:Program} {T:TypeId} {x y:Operand} {k k':IntKind} {n m:Int} (h:0<=m):xbin P .shl T x y (.int k n) (.int k' m)=some (.int k (k.wrap (n*2^(min m.toNat k.bits)))):=by
 have:¬m<0:=by omega
 show (if k=k' then (if m<0 then none else some (PV.int k (k.wrap (n*2^(min m.toNat k.bits))))) else (if m<0 then none else some (PV.int k (k.wrap (n*2^(min m.toNat k.bits))))))=_
 simp [this]
theorem Gm {P:Program} {T:TypeId} {x y:Operand} {k k':IntKind} {n m:Int} (h:0<=m):xbin P .shr T x y (.int k n) (.int k' m)=some (.int k (n.fdiv (2^(min m.toNat k.bits)))):=by
 have:¬m<0:=by omega
 show (if k=k' then (if m<0 then none else some (PV.int k (n.fdiv (2^(min m.toNat k.bits))))) else (if m<0 then none else some (PV.int k (n.fdiv (2^(min m.toNat k.bits))))))=_
 simp [this]
end
end Go.SH
namespace Go.SH
theorem BR.swap {w w':World} {σ:Sig} {A:Nat->Prop} {L:Lb} (h:BR w σ A L) {l:Nat} {cells:List PV} (hl:lget L l=some (some cells)) {β add size:Nat} {c:Array Value} {T:TypeId} {fr fr':Nat×Nat}
  (hb:Blk w σ (avo A σ L) l cells β add size c T fr) (hsz:w'.heap.size=w.heap.size) (ho:∀k,k≠β->w'.heap[k]?=w.heap[k]?) (hw:w'.heap[β]?=some (.cells c T fr')) (hfr:fr'.1=fr'.2\/size<=fr'.1) (hout:w'.os=w.os/\w'.output=w.output/\w'.tape=w.tape:=by first | exact ⟨rfl,rfl,rfl⟩ | assumption) :
  BR w' σ A L/\Grow top w σ L w' σ L:=by
 have hβl:cd σ L β:=⟨l,cells,add,size,hl,hb.sig⟩
 have hβ:avOf σ L β:=.inl hβl
 have hfm:∀q γ ad,σ.fam q γ ad->w'.heap[γ]?=w.heap[γ]?:=fun q γ ad hq=>ho γ fun e=>(h.fr.fam q γ ad hq).2 (e▸hβl)
 have hg:Grow top w σ L w' σ L:=⟨by omega,fun _ _ _ h=>h,fun γ hγ hn=>⟨hn,ho γ fun e=>hn (e▸hβ)⟩,hout,fun _ q γ ad hq=>⟨hq,hfm q γ ad hq⟩⟩
 refine ⟨⟨fun k cs hk=>?_,h.inj,h.dom,fun γ hA=>⟨by rw [hsz];exact (h.lo γ hA).1,(h.lo γ hA).2⟩,h.fr.mono (by rw [hsz];exact Nat.le_refl _) (fun _ _ _ k=>k) hfm fun _ _ _ _ k=>k⟩,hg⟩
 rcases h.all k cs hk with h1 | ⟨γ,a,s,cc,TT,f,hB⟩
 ·exact .inl h1
 ·by_cases hγ:γ=β
  ·subst hγ
   have e:=hB.heap;rw [hb.heap] at e;simp at e
   obtain ⟨rfl,rfl,rfl⟩:=e
   refine .inr ⟨γ,a,s,c,T,fr',⟨hB.sig,hw,hB.hsz,hB.fits,fun i x hx=>let ⟨v,h1,h2⟩:=hB.vals i x hx;⟨v,h1,h2.grow hg⟩,?_⟩⟩
   have:s=size:=by rw [<-hB.hsz,hb.hsz]
   rw [this];exact hfr
  ·exact .inr ⟨γ,a,s,cc,TT,f,⟨hB.sig,by rw [ho γ hγ];exact hB.heap,hB.hsz,hB.fits,fun i x hx=>let ⟨v,h1,h2⟩:=hB.vals i x hx;⟨v,h1,h2.grow hg⟩,hB.frs⟩⟩
section
variable {E:Env} {d:Option Tmp} {ty:TypeId} {pos:String} {after:Array Edge} {g:Option (Nat×Bool)} {ra:Al} {rl:Lb}
theorem FD {L:Lb} {l:Nat} {y:Option (List PV)} (h:lget L l=some y) (k:Nat):lget (lset L l y) k=lget L k:=by
 rw [ao];split
 ·rename_i e;subst e;exact h.symm
 ·rfl
theorem BR.eqL {w:World} {σ:Sig} {A:Nat->Prop} {L L':Lb} (h:BR w σ A L) (e:∀l,lget L' l=lget L l):BR w σ A L'/\Grow top w σ L w σ L':=by
 have hav:∀β,avOf σ L' β<->avOf σ L β:=lT e
 have hg:Grow top w σ L w σ L':=⟨Nat.le_refl _,fun _ _ _ h=>h,fun β _ hn=>⟨fun ha=>hn ((hav β).1 ha),rfl⟩,⟨rfl,rfl,rfl⟩,fun _ _ _ _ h=>⟨h,rfl⟩⟩
 refine ⟨⟨fun l cells hl=>?_,fun l l' c c' β a s a' s' h1 h2=>h.inj l l' c c' β a s a' s' (by rw [<-e];exact h1) (by rw [<-e];exact h2),fun l x hx=>by rw [e];exact h.dom l x hx,fun β hA=>⟨(h.lo β hA).1,fun ha=>(h.lo β hA).2 ((hav β).1 ha)⟩,h.fr.mono (Nat.le_refl _) (fun _ _ _ k=>k) (fun _ _ _ _=>rfl) fun _ β _ _=>(ma e β).1⟩,hg⟩
 rw [e] at hl
 rcases h.all l cells hl with h1 | ⟨β,a,s,cc,TT,f,hB⟩
 ·exact .inl h1
 ·exact .inr ⟨β,a,s,cc,TT,f,⟨hB.sig,hB.heap,hB.hsz,hB.fits,fun i x hx=>let ⟨v,h1,h2⟩:=hB.vals i x hx;⟨v,h1,h2.grow hg⟩,hB.frs⟩⟩
theorem CX {t e:TypeId} {x:Operand} {lab off n sz:Nat} {co:Option Nat} {cells:List PV} (hx:xev E.G ra x=some (.rw lab off n sz co)) (hl:lget rl lab=some (some cells)) (ht:E.P.underlying t=some (.slice e)) (he:E.P.underlying e=some (.int .u8)) (hn:n≠0) :
  AOp E ⟨d,.convert t t x,ty,pos,after,g⟩ ra rl (.rw lab off n sz co) [(lab,some cells)]:=by
 intro A w σ al L a r e1 e2 _
 have hxv:=aQ r e1 hx
 have hL:=e2 _ _ hl
 generalize hxe:a.eval x=v at hxv
 cases hxv with
 | rwE _ _=>exact absurd rfl hn
 | @rw _ _ _ _ _ β add size cap hs hnc hc hsz=>
  rcases r.blocks.all lab cells hL with ⟨h0,_⟩ | ⟨β',add',size',c,TT,fr,hB⟩
  ·rw [hs] at h0;simp at h0
  ·have:=hB.sig;rw [hs] at this;simp at this
   obtain ⟨rfl,rfl,rfl⟩:=this
   have hsh:w.shape? β=some (TT,c.size):=by unfold World.shape?;rw [hB.heap]
   have hrun:(execOp a.eval ⟨d,.convert t t x,ty,pos,after,g⟩).run E.P w = .ok (.value (.slice (some ⟨β,add+off,none⟩) n cap)) (w.freeze ⟨β,c.size,none⟩ 1):=by
    simp [execOp,hxe,convert,run_underlying ht,run_underlying he,markStringish,hsh]
   unfold Oper.wp
   rw [hrun]
   have hlt:β<w.heap.size:=(Array.getElem?_eq_some_iff.1 hB.heap).1
   obtain ⟨lo,hi⟩:=fr
   obtain ⟨b1,b2⟩:=r.blocks.swap hL hB (w':=w.freeze ⟨β,c.size,none⟩ 1) (fr':=if lo==hi then (c.size,c.size+1) else (min lo c.size,max hi (c.size+1))) (by simp [World.freeze])
    (fun k hk=>by simp [World.freeze,Array.getElem?_modify,Ne.symm hk]) (by simp [World.freeze,Array.getElem?_modify,hB.heap]) (by
     have h1:=hB.hsz
     rcases hB.frs with h | h
     ·simp at h;subst h;simp;omega
     ·simp at h
      by_cases hq:lo=hi
      ·simp [hq];omega
      ·simp [hq];right;omega)
   obtain ⟨b3,b4⟩:=b1.eqL (FD hL)
   have b5:=b2.trans b4
   exact ⟨σ,_,rfl,(VR.rw hs hnc hc hsz).grow b4,b3,b5⟩
theorem Bf {s t e:TypeId} {x:Operand} {bs:List UInt8} (lab:Nat) (hx:xev E.G ra x=some (.str bs)) (hs:E.P.underlying s=some .string) (ht:E.P.underlying t=some (.slice e)) (he:E.P.underlying e=some (.int .u8)) (hrl:lget rl lab=none) :
  AOp E ⟨d,.convert s t x,ty,pos,after,g⟩ ra rl (.rw lab 0 bs.length 1 none) [(lab,some (fl eU8 bs))]:=by
 intro A w σ al L a r e1 e2 e3
 have hf:lget L lab=none:=by
  rcases e3 (lab,some (fl eU8 bs)) (by simp) with h | h
  ·exact absurd hrl h
  ·exact h
 have hxv:=aQ r e1 hx
 generalize hxe:a.eval x=v at hxv
 cases hxv
 have hrun:(execOp a.eval ⟨d,.convert s t x,ty,pos,after,g⟩).run E.P w = .ok (.value (.slice (some ⟨w.heap.size,0,none⟩) bs.length (grownCap w bs.length 0 e))) (Lib.bytesWorld w e ⟨⟨bs⟩⟩):=by
  simp [execOp,hxe,Lib.run_convert_string_bytes w s t e ⟨⟨bs⟩⟩ hs ht he]
  constructor <;> rfl
 unfold Oper.wp
 rw [hrun]
 have hcap:bs.length<=grownCap w bs.length 0 e:=by simp [grownCap,Question.cut]
 have hcs:(Lib.bytesCells w e ⟨⟨bs⟩⟩).size=grownCap w bs.length 0 e:=by
  have:(Lib.bytesCells w e ⟨⟨bs⟩⟩).size=bs.length+(grownCap w bs.length 0 e-bs.length):=by simp [Lib.bytesCells];rfl
  omega
 obtain ⟨b1,b2⟩:=r.blocks.alloc hf (fl eU8 bs) (Lib.bytesCells w e ⟨⟨bs⟩⟩) e (w':=Lib.bytesWorld w e ⟨⟨bs⟩⟩) (Lib.bytesWorld_size w e _) (fun β hb=>Lib.bytesWorld_at_old w e _ β hb) (Lib.bytesWorld_at_new w e _) (.inr (Nat.le_refl _))
  (by rw [hcs,bD];simp [eU8];exact hcap) (fun i y hy=>by
   rw [<-rZ] at hy
   simp only [tR,List.getElem?_map] at hy
   cases hb:bs[i]? with
   | none=>rw [hb] at hy;simp at hy
   | some c=>
    rw [hb] at hy;simp at hy;subst hy
    have hi:=(List.getElem?_eq_some_iff.1 hb).1
    refine ⟨.int .u8 c.toNat,?_,.int _ _⟩
    rw [Lib.bytesCells,Array.getElem?_append_left (by simpa using hi)]
    simp [hb])
 exact ⟨_,_,rfl,.rw (dJ _ _ _) hcap (by simp) (by rw [hcs];omega),b1,b2⟩
theorem Bh {T t:TypeId} {ie:TypeInfo} {x:Operand} {lo hi:Option Operand} {lab n l h:Nat} {cells:List PV} (sz:Nat) (hx:xev E.G ra x=some (.ptr lab 0)) (hl:lget rl lab=some (some cells)) (hT:E.P.underlying T=some (.array n t)) (he:E.P.info? t=some ie) (hs:ie.size=sz)
  (hc:cells.length=n*sz) (hne:0<n*sz) (hlo:bnd E.G ra lo 0 l) (hh:bnd E.G ra hi n h) (hle:l<=h) (hle':h<=n) :
  AOp E ⟨d,.slice T x lo hi none,ty,pos,after,g⟩ ra rl (.rw lab (l*sz) (h-l) sz none) []:=by
 subst hs
 refine bA fun A w σ al L a r h1 h2=>?_
 have hxv:=aQ r h1 hx
 have hL:=h2 _ _ hl
 generalize hxe:a.eval x=v at hxv
 cases hxv with
 | @ptr _ _ β add size hsg=>
  have key:(execOp a.eval ⟨d,.slice T x lo hi none,ty,pos,after,g⟩).run E.P w = .ok (.value (.slice (some (if n=l then ⟨β,add+0,none⟩ else (⟨β,add+0,none⟩:Addr).add (l*ie.size))) (h-l) (n-l))) w:=by
   have c2:(l:Int)<=h:=by omega
   rcases uU r h1 hlo with ⟨rfl,rfl⟩ | ⟨xl,kl,rfl,el⟩ <;> rcases uU r h1 hh with ⟨rfl,rfl⟩ | ⟨xh,kh,rfl,eh⟩
   all_goals simp [execOp,Instr.sliceAt,run_underlying hT,hxe,Instr.sureAddr,Instr.sliceBounds,Instr.sliceBound,asIntOf,bm he, *]
  rcases r.blocks.all lab cells hL with ⟨h0,_⟩ | ⟨β',add',size',c,TT,fr,hB⟩
  ·rw [hsg] at h0;simp at h0
  ·have:=hB.sig;rw [hsg] at this;simp at this
   obtain ⟨rfl,rfl,rfl⟩:=this
   have hf:=hB.fits
   refine ⟨_,key,?_⟩
   by_cases hnl:n=l
   ·have:h=l:=by omega
    subst this;subst hnl
    simp
    exact .rwE _ (by simp)
   ·rw [if_neg hnl]
    simp only [fT,Nat.add_zero]
    refine VR.rw hsg (by omega) (by simp) ?_
    have:(n-l)*ie.size+l*ie.size=n*ie.size:=by rw [<-Nat.add_mul];congr 1;omega
    omega
end
mutual
theorem vb (S:Nat->Bool):∀(x:PV),am (fun _=>false) x=true->am S x=true
 | .dead,_=>rfl
 | .int _ _,_=>rfl
 | .bool _,_=>rfl
 | .str _,_=>rfl
 | .nilp,_=>rfl
 | .ptr _ _,h=>by simp [am] at h
 | .rop cells _,h=>by simp only [am] at *;exact eD S cells h
 | .nils,_=>rfl
 | .ro cells _ _,h=>by simp only [am] at *;exact eD S cells h
 | .rw _ _ _ _ _,h=>by simp [am] at h
 | .fn _ caps,h=>by simp only [am] at *;exact eD S caps h
 | .nilf,_=>rfl
 | .raw _,_=>rfl
 | .iface _ v,h=>by simp only [am] at *;exact vb S v h
 | .nili,_=>rfl
 | .ev _ _,_=>rfl
 | .xc _ _,_=>rfl
 | .agg cells,h=>by simp only [am] at *;exact eD S cells h
 | .tup vs,h=>by simp only [am] at *;exact eD S vs h
theorem eD (S:Nat->Bool):∀(xs:List PV),ag (fun _=>false) xs=true->ag S xs=true
 | [],_=>rfl
 | x::xs,h=>by
  simp only [ag,Bool.and_eq_true] at *
  exact ⟨vb S x h.1,eD S xs h.2⟩
end
theorem jl {S:Nat->Bool} {xs:List PV} (h:ag (fun _=>false) xs=true):ag S xs=true:=eD S xs h
inductive SubL (L:Lb):Lb->Prop where
 | nil:SubL L []
 | cons {l:Nat} {y:Option (List PV)} {r:Lb} (h:lget L l=some y) (k:SubL L r):SubL L ((l,y)::r)
inductive InL (S:Nat->Bool):Lb->Prop where
 | nil:InL S []
 | cons {l:Nat} {cs:List PV} {r:Lb} (h:ag S cs=true) (k:InL S r):InL S ((l,some cs)::r)
 | gone {l:Nat} {r:Lb} (k:InL S r):InL S ((l,none)::r)
section
variable {E:Env} {K:Nat->Prop} {n:Nat} {ops:Array Oper} {rest:List Oper} {Q:Exit->Al->Lb->Prop} {al:Al} {L:Lb}
end
section
variable {E:Env} {d:Option Tmp} {ty:TypeId} {pos:String} {after:Array Edge} {g:Option (Nat×Bool)} {ra:Al} {rl:Lb} {α:Type} {e:El α}
end
end Go.SH
