/- Part 3 of: ScriptFaults -/
import Derived.Test.YtaildpaandndgaaDoorB
import Derived.Lib.ItoaNum
import Derived.Lib.Bytealg
import Derived.KernelRfl
import Derived.Shelf.Small.Strs
import Derived.Shelf.LaysM
import Derived.Shelf.Strconv.Itoa3
import Derived.Shelf.Strings.Search1
import Derived.Test.YtaildpaandndgaaDoorProg
import Derived.WalkKit
import Derived.LaidEql
import Derived.Stop.Asserts
import Derived.RowKitTokens
import Derived.ProofKit
import Derived.LaidMore
import Derived.OpenShut
import Derived.Below
set_option linter.unusedVariables false
set_option linter.unusedSimpArgs false
set_option linter.unusedSectionVars false
namespace Go.SH
/-- More blocks behind the heap. -/
theorem BR.more {w w':World} {σ:Sig} {A:Nat → Prop} {L:Lb} (h:BR w σ A L) (hs:w.heap.size ≤ w'.heap.size) (hh:∀ β,β < w.heap.size → w'.heap[β]? = w.heap[β]?) (ho:w'.os = w.os ∧ w'.output = w.output ∧ w'.tape = w.tape) :
    BR w' σ A L ∧ Grow top w σ L w' σ L:=by
  have hg:Grow top w σ L w' σ L:=⟨hs,fun _ _ _ h=>h,fun β hb hn=>⟨hn,hh β hb⟩,ho,fun _ q β add hq=>⟨hq,hh β (h.fr.fam q β add hq).1⟩⟩
  refine ⟨⟨?_,h.inj,h.dom,fun β hA=>⟨Nat.lt_of_lt_of_le (h.lo β hA).1 hs,(h.lo β hA).2⟩,h.fr.mono hs (fun _ _ _ k=>k) (fun q β add k=>hh β (h.fr.fam q β add k).1) fun _ _ _ _ k=>k⟩,hg⟩
  intro l cells hl
  rcases h.all l cells hl with h1 | ⟨β,add,size,c,T,fr,hB⟩
  · exact .inl h1
  · exact .inr ⟨β,add,size,c,T,fr,⟨hB.sig,by rw [hh β (h.lt (.inl ⟨l,cells,_,_,hl,hB.sig⟩))];exact hB.heap,hB.hsz,hB.fits,fun i x hx=>let ⟨v,h1,h2⟩:=hB.vals i x hx;⟨v,h1,h2.grow hg⟩,hB.frs⟩⟩
/-- The record of a loop. -/
abbrev loopRec (fn:Nat) (tmps:Array Value) (ps:List Nat) (assign body:Code) (dfr:Nat):Loop:={ state:=.ready,pending:=none,fn:=fn,tmps:=tmps,params:=ps.toArray,assign:=assign,body:=body,defers:=dfr }
section
variable {E:Env} {K:Nat → Prop} {n:Nat} {al:Al} {L:Lb} {Q:Exit → Al → Lb → Prop}
/-- What a call of a round's function runs. -/
def yieldT (ro:Option Nat) (P:Program) (m:Nat) (ps:List Nat) (assign body:Code) (ts:List Nat) (cvs cxs:List Value) (W:World) (cargs:List Value) (R:Ending → World → Prop):Prop:=
  cargs = cvs ++ cxs → ∀ l fn dfr tmps,W.heap[l]? = some (.loop (loopRec fn tmps ps assign body dfr)) → tmps.size = m → (∀ (i t:Nat) (v:Value),ts[i]? = some t → cvs[i]? = some v → tmps[t]? = some v) →
    RoundIn (fen ro) 0 P l fn ((ps.zip cxs).foldl (fun tmps p=>tmps.setIfInBounds p.1 p.2) tmps) assign body W R
theorem yieldT_mono {ro:Option Nat} {P:Program} {m:Nat} {ps ts:List Nat} {assign body:Code} {cvs cxs:List Value}:∀ (w:World) (cargs:List Value) (R R':Ending → World → Prop),(∀ e w',R e w' → R' e w') → yieldT ro P m ps assign body ts cvs cxs w cargs R → yieldT ro P m ps assign body ts cvs cxs w cargs R':=
  fun w cargs R R' hr h hc l fn dfr tmps h1 h2 h3=>(h hc l fn dfr tmps h1 h2 h3).mono hr
/-- A call of a round's function. -/
theorem AWl_yield {ops:Array Oper} {rest:List Oper} {d:Option Tmp} {ty:TypeId} {pos:String} {after:Array Edge} {g:Option (Nat × Bool)} {fo:Operand} {args:Array Operand} {tys:Array TypeId} {m:Nat} {ps ts:List Nat} {assign body:Code} {vs xs:List PV} {rl LL wl:Lb} (hG:GOK E)
    (hf:xev E.G al fo = some (.yld m ps assign body ts vs)) (hx:xevs E.G al args.toList = some xs) (hpx:ps.length = xs.length)
    (h:∀ cvs cxs,cvs.length = vs.length → cxs.length = xs.length → ACallsT E (yieldT E.ro E.P m ps assign body ts cvs cxs) (vs ++ xs) rl fun r L'=>r = .bool true ∧ L' = LL)
    (hw:withinL (hasL rl) (vs ++ xs) = true) (hc:∀ l cells,lget rl l = some (some cells) → withinL (hasL rl) cells = true)
    (hkeys:∀ l,lget rl l ≠ none → lget LL l ≠ none) (hnew:∀ l y,lget LL l = some y → lget rl l = none → ∃ p ∈ wl,p.1 = l)
    (heq:∀ (L:Lb) (l:Nat),(∀ l y,lget rl l = some y → lget L l = some y) → lget (lupd L wl) l = lget (LL ++ L) l)
    (hno:Kst rl) (h2:∀ l y,lget rl l = some y → lget L l = some y) (h3:∀ p ∈ wl,lget rl p.1 ≠ none ∨ lget L p.1 = none)
    (hd:∀ t,d = some t → t < n) (hg:wants ops al ⟨d,.call ⟨.value fo,args,tys⟩,ty,pos,after,g⟩ = some true)
    (k:AWl E K n ops rest Q (oset d (.bool true) al) (lupd L wl)):AWl E K n ops (⟨d,.call ⟨.value fo,args,tys⟩,ty,pos,after,g⟩ :: rest) Q al L:=by
  intro A w σ a r t
  have hv:=xev_ok r (fun _ _ h=>h) hf
  obtain ⟨e1,e2⟩:=xevs_ok r (fun _ _ h=>h) _ _ hx
  simp only [wpListIn]
  rw [if_pos (wants_ok r hg)]
  refine ⟨fun _ _=>trivial,?_⟩
  rw [Oper.semAt_eq _ _ _ (fun c h=>by cases h)]
  generalize hge:a.eval fo = fv at hv
  cases hv with
  | yld l fn dfr tmps cs hn hl hz hcl ht hvs=>
    have hrun:(execOp a.eval ⟨d,.call ⟨.value fo,args,tys⟩,ty,pos,after,g⟩).run E.P w = .ok (.round l fn ((ps.zip (args.toList.map a.eval)).foldl (fun tmps p=>tmps.setIfInBounds p.1 p.2) tmps) assign body) w:=by
      have hy:=run_yield (P:=E.P) (args:=args.map a.eval) hl (by have:=e1;simp at this;simp;rw [hpx];exact this.symm)
      have hz2:(ps.toArray.zip (args.map a.eval)).foldl (fun tmps x=>match x with | (t,a)=>tmps.setIfInBounds t a) tmps = (ps.zip (args.toList.map a.eval)).foldl (fun tmps p=>tmps.setIfInBounds p.1 p.2) tmps:=by
        rw [← Array.foldl_toList]
        simp
      rw [hz2] at hy
      simp [execOp,resolve,Deferred.ofValue,hge,invoke,hy]
    rw [hrun,Oper.uponIn_round]
    refine ⟨fun h=>by simp [Fence.wide] at h,?_⟩
    have hT:=ACallsT.use (T:=yieldT E.ro E.P m ps assign body ts cs (args.toList.map a.eval)) yieldT_mono hG (h cs (args.toList.map a.eval) hcl.symm e1.symm) hw hc hkeys hnew heq r hno h2 h3 (cargs:=cs ++ args.toList.map a.eval) (by have:=e1;simp at this;simp [hcl,this]) (fun i x v hx hv=>by
        by_cases hi:i < vs.length
        · rw [List.getElem?_append_left hi] at hx
          rw [List.getElem?_append_left (by omega)] at hv
          exact hvs i x v hx hv
        · rw [List.getElem?_append_right (by omega)] at hx
          rw [List.getElem?_append_right (by omega)] at hv
          exact e2 _ x v hx (by rw [← hcl] at hv;exact hv)) rfl l fn dfr tmps hl hz ht
    refine hT.mono ?_
    rintro e w' ⟨σ',c,rfl,f1,f2,f3⟩
    have r':=(r.grow f2 f3).put (d:=d) (fun u hu=>by rw [t];exact hd u hu) f1
    exact wpListIn_mono (fun e a w h=>Post.trans (f3.weaken fun _ _=>trivial) h) _ _ _ (k A w' σ' _ r' (by rw [size_put];exact t))
end
end Go.SH
namespace Go.SH
variable [SentA]
theorem lget_lupdN {α:Type} {wl L:List (Nat × α)} {k:Nat} (h:∀ p ∈ wl,∀ q ∈ wl,p.1 = q.1 → p = q):lget (lupd L wl) k = match lget wl k with | some c=>some c | none=>lget L k:=by
  rcases lget_lupdG wl L k with ⟨p,hp,rfl,h2⟩ | ⟨h1,h2⟩
  · have hk:(keys wl).elem p.1 = true:=by simp only [keys,List.elem_eq_mem,decide_eq_true_eq];exact List.mem_map.2 ⟨p,hp,rfl⟩
    cases hc:lget wl p.1 with
    | none=>exact absurd hc (elemK.1 hk)
    | some c=>
      have:=h p hp _ (mem_of_lget hc) rfl
      rw [h2,this]
  · cases hc:lget wl k with
    | none=>exact h2
    | some c=>exact absurd rfl (h1 _ (mem_of_lget hc))
theorem set_ok {s:St} (h:s.ok) {d:Option Nat} {x:DV} (hx:x.ok):(s.set d x).ok:=by
  cases d with
  | none=>exact h
  | some t=>
    refine ⟨fun u y hy=>?_,h.2⟩
    simp only [St.set,lget] at hy
    split at hy
    · simp at hy;subst hy;exact hx
    · exact h.1 u y hy
theorem wr_ok {s:St} (h:s.ok) {wl:DLb} {dl:DL} (hw:wlOk wl):(s.wr wl dl).ok:=by
  refine ⟨h.1,fun l c hl=>?_⟩
  simp only [St.wr] at hl
  rcases lget_lupdG wl s.L l with ⟨p,hp,rfl,h2⟩ | ⟨_,h2⟩
  · rw [h2] at hl;simp at hl;subst hl;exact hw p hp
  · rw [h2] at hl;exact h.2 l c hl
theorem set_up (s:St) (d:Option Nat) (x:DV):Up s (s.set d x):=fun _ h=>h.set d x
theorem wr_up {s:St} {wl:DLb} {dl:DL} (h:DirtyOK s.L wl dl):Up s (s.wr wl dl):=fun _ k=>k.wr h
theorem dal_set (s:St) (d:Option Nat) (x:DV):dal (s.set d x).al = oset d x.pv (dal s.al):=by cases d <;> rfl
theorem dlb_set (s:St) (d:Option Nat) (x:DV):(s.set d x).L = s.L:=by cases d <;> rfl
theorem resV_ok {s:St} (h:s.ok):(resV s).ok:=by
  unfold resV
  split
  · rename_i d hd;exact h.1 _ _ hd
  · trivial
theorem nodupM_mem:∀ {m m':List (Nat × Nat)},nodupM (m ++ m') = true → ∀ p ∈ m,lk (m ++ m') p.1 = p.2:=fun h p hp=>nodupM_lk h p (List.mem_append_left _ hp)
section
variable {E:Env} {d:Option Tmp} {ty:TypeId} {pos:String} {after:Array Edge} {gg:Option (Nat × Bool)} {ra:DAl} {rl:DLb} {R:Type} {k:DV → DLb → DL → Option R} {r:R} {G:GTab}
/-- .. that may write families' blocks. -/
def OpB (wk:Bool) (E:Env) (o:Oper) (ra:DAl) (rl:DLb) {R:Type} (k:DV → DLb → DL → Option R) (r:R):Prop:=
  ∃ x wl dl,(match wk with
    | false=>AOp E o (dal ra) (dlb rl) x.pv (dlb wl)
    | true=>AOpW E o (dal ra) (dlb rl) x.pv (dlb wl)) ∧ x.ok ∧ wlOk wl ∧ DirtyOK rl wl dl ∧ k x wl dl = some r
theorem dcNoF_ok {c:DC} (h:dcNoF c = true) {cells:List PV} (hc:c.pv = some cells):withinL noF cells = true:=by
  cases c with
  | gone=>simp [DC.pv] at hc
  | cs ds=>
    simp [DC.pv] at hc;subst hc
    simp only [dcNoF,Bool.and_eq_true] at h
    exact labsL_withinN h.1 (.inl h.2)
  | ls t l=>simp [DC.pv] at hc;subst hc;exact fl_withinN (.inl h) _
def CoreT (E:Env) (con:ICore) (a:HT (Sh.hss con.ar ++ hsL con.ls)) (v:con.ot.T) (TT:World → List Value → (Ending → World → Prop) → Prop):Prop:=
  ACallsT E TT (DV.pvs (inA con.ar con.ls (unpack _ a))) (dlb (inL con.ar con.ls (unpack _ a))) fun x L=>x = (resV (con.ot.app v (inS con.ar con.ls (unpack _ a)))).pv ∧ L = dlb (con.ot.app v (inS con.ar con.ls (unpack _ a))).L
theorem dCallI_core {wk:Bool} (hE:GOK E) (hrl:lbOk rl) {fr:Nat} {con:ICore} {f:FuncId} {args:List DV}
    (h:dCallI wk rl fr con f args k = some r):∃ a v x wl dl L2 LL,con.f = f ∧ con.fn a = some v ∧ x.ok ∧ wlOk wl ∧ DirtyOK rl wl dl ∧ k x wl dl = some r ∧ (∃ τ,x.pv = PV.rn τ (resV (con.ot.app v (inS con.ar con.ls (unpack _ a)))).pv) ∧
      (∀ TT:World → List Value → (Ending → World → Prop) → Prop,(∀ w cargs (R R':Ending → World → Prop),(∀ e w',R e w' → R' e w') → TT w cargs R → TT w cargs R') → CoreT E con a v TT → ACallsT E TT (DV.pvs args) L2 fun r L'=>r = x.pv ∧ L' = LL) ∧
      withinL (hasL L2) (DV.pvs args) = true ∧ (∀ l cells,lget L2 l = some (some cells) → withinL (hasL L2) cells = true) ∧ (∀ l,lget L2 l ≠ none → lget LL l ≠ none) ∧ (∀ l y,lget LL l = some y → lget L2 l = none → ∃ p ∈ dlb wl,p.1 = l) ∧
      (∀ (L:Lb) (l:Nat),(∀ l y,lget L2 l = some y → lget L l = some y) → lget (lupd L (dlb wl)) l = lget (LL ++ L) l) ∧
      (∀ {L:Lb},(∀ l y,lget (dlb rl) l = some y → lget L l = some y) → (∀ p ∈ dlb wl,lget (dlb rl) p.1 ≠ none ∨ lget L p.1 = none) → (∀ l y,lget L2 l = some y → lget L l = some y) ∧ ∀ p ∈ dlb wl,lget L2 p.1 ≠ none ∨ lget L p.1 = none) ∧
      (wk = false → Kst L2) ∧ (wk = true → ∀ {L:Lb},(∀ l y,lget (dlb rl) l = some y → lget L l = some y) → (∀ l cells,lget (dlb rl) l = none → lget L l = some (some cells) → withinL noF cells = true) → ∀ l cells,lget L2 l = none → lget L l = some (some cells) → withinL noF cells = true):=by
  unfold dCallI at h
  split at h
  rotate_left
  · simp at h
  rename_i hc0;obtain ⟨rfl,hk1,hk2,hk3⟩:=hc0
  split at h
  rotate_left
  · simp at h
  rename_i g1 hg1
  split at h
  rotate_left
  · simp at h
  rename_i g hg
  obtain ⟨hq,h⟩:=reqs_ok h
  split at h
  rotate_left
  · simp at h
  rename_i a ha
  obtain ⟨v,hv,h⟩:=bind_some h
  simp only at h
  split at h
  rotate_left
  · simp at h
  rename_i hc
  obtain ⟨c1,c2,c3,c4,c5,c6,c7,c8,c9,c10,c11,c12,c13,c14⟩:=hc
  have hu:=pack_ok ha
  obtain ⟨a1,as_,a2,a3,a4⟩:=gets_mks _ con.ar hg1
  obtain ⟨b1,ys,b2,b4⟩:=getL_ok hg
  have hvs:g.vs = as_ ++ ys:=by rw [b2,a2];simp
  have hC:∀ TT,CoreT E con a v TT → ACallsT E TT (DV.pvs (inA con.ar con.ls g.vs)) (dlb (inL con.ar con.ls g.vs)) fun x L=>x = (resV (con.ot.app v (inS con.ar con.ls g.vs))).pv ∧ L = dlb (con.ot.app v (inS con.ar con.ls g.vs)).L:=fun TT hc=>by
    unfold CoreT at hc;rw [hu] at hc;exact hc
  generalize hlen:inLen con.ar con.ls g.vs = len at *
  generalize ho:con.ot.app v (inS con.ar con.ls g.vs) = o at *
  have hAeq:inA con.ar con.ls g.vs = (Sh.mks len con.ar (as_ ++ ys)).1:=by unfold inA;rw [hlen,hvs]
  have hτ:∀ p ∈ g.m,lk (g.m ++ newN (fr) (keys con.ls) (keys o.L) 0) p.1 = p.2:=nodupM_mem c1
  generalize lk (g.m ++ newN (fr) (keys con.ls) (keys o.L) 0) = τ at *
  have hLk:keys (inL con.ar con.ls g.vs) = keys con.ls:=mkL_keys _ _ _
  have hS:hasL (dlb (inL con.ar con.ls g.vs)) = fun l=>(keys con.ls).elem l:=by rw [hasL_keys,hLk]
  have hF:Fin τ (hasL (dlb (inL con.ar con.ls g.vs))) len g:=⟨fun p hp=>⟨hτ p hp,by rw [hS];exact List.all_eq_true.1 c2 p hp⟩,hq⟩
  obtain ⟨d1,d2,d3⟩:=a4 len ys τ _ (hF.sub b1).m (hF.sub b1).q
  obtain ⟨e1,e2⟩:=b4 [] hF
  have hx1:=getL_x hg b2 (rest:=[]) hF
  rw [List.append_nil] at e1 e2 hx1
  have hLeq:inL con.ar con.ls g.vs = (mkL len con.ls ys).1:=by
    unfold inL;rw [hlen,hvs]
    simp only at d1
    rw [d1]
  let L2:Lb:=con.ls.map fun p=>(τ p.1,match lget rl (τ p.1) with | some c=>c.pv | none=>none)
  have hL2k:hasL L2 = fun l=>((keys con.ls).map τ).elem l:=by
    have:L2 = dlb (con.ls.map fun p=>(τ p.1,match lget rl (τ p.1) with | some c=>c | none=>.gone)):=by
      simp only [L2,dlb,List.map_map]
      refine List.map_congr_left fun p _=>?_
      simp only [Function.comp]
      cases lget rl (τ p.1) <;> rfl
    rw [this,hasL_keys]
    funext l
    simp only [keys,List.map_map]
    rfl
  have hin:∀ l,l ∈ keys con.ls → ∃ c cells,lget rl (τ l) = some c ∧ c.pv = some cells ∧ dcLabsN (fun l=>((keys con.ls).map τ).elem l) c = true:=by
    intro l hl
    obtain ⟨p,hp,rfl⟩:=List.mem_map.1 hl
    have:=List.all_eq_true.1 c4 p hp
    split at this
    · simp at this
    · rename_i c hne hc
      cases c with
      | gone=>exact (hne rfl).elim
      | cs ds=>exact ⟨_,_,hc,rfl,this⟩
      | ls t x=>exact ⟨_,_,hc,rfl,this⟩
    · simp at this
  have hsub:∀ p ∈ L2,lget (dlb rl) p.1 = some p.2:=by
    intro p hp
    obtain ⟨q,hq,rfl⟩:=List.mem_map.1 hp
    obtain ⟨c,cells,h1,h2,_⟩:=hin q.1 (List.mem_map.2 ⟨q,hq,rfl⟩)
    simp only;rw [lget_dlb,h1];rfl
  have hL2get:∀ l,l ∈ keys con.ls → lget L2 (τ l) = lget (dlb rl) (τ l):=by
    intro l hl
    have:hasL L2 (τ l) = true:=by rw [hL2k];simp only [List.elem_eq_mem,decide_eq_true_eq];exact List.mem_map.2 ⟨l,hl,rfl⟩
    simp only [hasL,Option.isSome_iff_exists] at this
    obtain ⟨y,hy⟩:=this
    rw [hy];exact (hsub _ (mem_of_lget hy)).symm
  have hinj:∀ l l',lget (dlb o.L) l ≠ none → lget (dlb o.L) l' ≠ none → τ l = τ l' → l = l':=by
    intro l l' h1 h2 h3
    have hk:∀ {l},lget (dlb o.L) l ≠ none → l ∈ keys o.L:=fun {l} h=>by
      have:hasL (dlb o.L) l = true:=by simpa [hasL,Option.isSome_iff_ne_none] using h
      rw [hasL_keys] at this;simpa using this
    have:=List.all_eq_true.1 (List.all_eq_true.1 c6 l (hk h1)) l' (hk h2)
    simp only [decide_eq_true_eq] at this
    exact this h3
  have hmemo:∀ {l},lget (dlb o.L) l ≠ none ↔ l ∈ keys o.L:=fun {l}=>by
    have:hasL (dlb o.L) l = true ↔ l ∈ keys o.L:=by rw [hasL_keys];simp
    rw [← this];simp [hasL,Option.isSome_iff_ne_none]
  have hmemi:∀ {l},lget (dlb (inL con.ar con.ls g.vs)) l ≠ none ↔ l ∈ keys con.ls:=fun {l}=>by
    have:hasL (dlb (inL con.ar con.ls g.vs)) l = true ↔ l ∈ keys con.ls:=by rw [hS];simp
    rw [← this];simp [hasL,Option.isSome_iff_ne_none]
  have hdom:∀ l,l ∈ keys con.ls → l ∈ keys o.L:=fun l hl=>by simpa using List.all_eq_true.1 c5 l hl
  have hrn:∀ l,l ∈ keys o.L → lget (rnL τ o.L) (τ l) = (lget o.L l).map (DC.rn τ):=fun l hl=>lget_rn fun l' hl' e=>hinj l' l (hmemo.2 hl') (hmemo.2 hl) e
  have hkp:∀ l,lget (dlb (inL con.ar con.ls g.vs)) l ≠ none → τ l = fkeep → l = fkeep:=fun l hl=>by
    have:=List.all_eq_true.1 c13 l (hmemi.1 hl)
    exact of_decide_eq_true this
  have hR:=fun TT (hTT:∀ w cargs (R R':Ending → World → Prop),(∀ e w',R e w' → R' e w') → TT w cargs R → TT w cargs R') (hc0:CoreT E con a v TT)=>ACallsT.ren (L2:=L2) (LL2:=dlb (rnL τ o.L)) (τ:=τ) (xs:=DV.pvs args) hTT (hC TT hc0) (by
      rw [hAeq];exact d2.get.1) (fun i x y hx hy=>by rw [hAeq] at hy;exact d2.get.2 i x y hx hy) (fun l c hl=>by
      have hlk:l ∈ keys con.ls:=hmemi.1 (by rw [hl];simp)
      have hm:=mem_of_lget hl
      obtain ⟨⟨l',c'⟩,hp,e⟩:=List.mem_map.1 hm
      simp only [Prod.mk.injEq] at e;obtain ⟨rfl,rfl⟩:=e
      rw [hLeq] at hp
      obtain ⟨_,ys',k2,k3⟩:=e2 _ hp
      simp only at k2 k3
      rcases k3 with ⟨xs',k4,k5⟩ | ⟨k4,_⟩
      · exact ⟨ys',xs',k2,by rw [hL2get _ hlk];exact k4,k5⟩
      · obtain ⟨c,cells,h1,_⟩:=hin _ hlk
        rw [lget_dlb,h1] at k4;simp at k4)
    (fun k' hk'=>by
      have:hasL L2 k' = true:=by simpa [hasL,Option.isSome_iff_ne_none] using hk'
      rw [hL2k] at this
      simp only [List.elem_eq_mem,decide_eq_true_eq] at this
      obtain ⟨l,h1,h2⟩:=List.mem_map.1 this
      exact ⟨l,hmemi.2 h1,h2⟩) hinj (fun l hl=>hmemo.2 (hdom l (hmemi.1 hl)))
    (by rw [hasL_keys];exact labs_within c7) (fun l cells hl=>by
      have hm:=mem_of_lget hl
      obtain ⟨⟨l',c'⟩,hp,e⟩:=List.mem_map.1 hm
      simp only [Prod.mk.injEq] at e;obtain ⟨rfl,e⟩:=e
      have h8:=List.all_eq_true.1 c8 _ hp
      rw [hasL_keys]
      cases c' with
      | gone=>simp [DC.pv] at e
      | cs ds=>simp [DC.pv] at e;subst e;exact labsL_within h8
      | ls t x=>
        simp [DC.pv] at e;subst e
        simp only [dcLabsN,Bool.or_eq_true] at h8
        exact fl_withinN h8 _)
    (fun l c hl=>by
      have hlk:l ∈ keys o.L:=hmemo.1 (by rw [hl];simp)
      rw [lget_dlb] at hl
      cases ho2:lget o.L l with
      | none=>rw [ho2] at hl;simp at hl
      | some c'=>
        rw [ho2] at hl;simp at hl;subst hl
        rw [lget_dlb,hrn l hlk,ho2]
        simp [dc_rn_pv])
    (fun k' hk'=>by
      rw [lget_dlb] at hk'
      obtain ⟨l,h1,h2⟩:=lget_rn_none (L:=o.L) (τ:=τ) (k:=k') (fun e=>hk' (by rw [e];rfl))
      exact ⟨l,hmemo.2 h1,h2⟩) hkp hE
  have hwl_nd:∀ p ∈ wlI τ rl con.ls con.ot o.L,∀ q ∈ wlI τ rl con.ls con.ot o.L,p.1 = q.1 → p = q:=by
    intro p hp q hq e
    obtain ⟨⟨l,c⟩,hp1,rfl⟩:=List.mem_map.1 hp
    obtain ⟨⟨l',c'⟩,hq1,rfl⟩:=List.mem_map.1 hq
    have hp':=(List.mem_filter.1 hp1).1
    have hq':=(List.mem_filter.1 hq1).1
    have h1:=nodupN_lget c11 hp'
    have h2:=nodupN_lget c11 hq'
    have hlk:∀ {l c},(l,c) ∈ o.L → l ∈ keys o.L:=fun h=>List.mem_map.2 ⟨_,h,rfl⟩
    have:=hinj l l' (hmemo.2 (hlk hp')) (hmemo.2 (hlk hq')) e
    subst this
    rw [h1] at h2;simp at h2;rw [h2]
  have hbase:∀ l c,lget o.L l = some c → l ∉ keys con.ot.labs → ∃ c0,(l,c0) ∈ inL con.ar con.ls g.vs ∧ ∃ cu:List (Nat × Nat × DV),(cu.map fun c=>(c.1,c.2.1)) = (con.ot.cups.map fun c=>(c.1,c.2.1)) ∧ c = cupL cu con.ot.killL l c0:=by
    intro l c hl hn
    rw [← ho] at hl
    simp only [Tm.app,Tm.appL] at hl
    rcases lget_appM hl with ⟨p,hp,rfl⟩ | ⟨_,hl⟩
    · have:l ∈ keys con.ot.labs:=by
        have h1:l ∈ (mkL (lenF (lenT con.ot.labs ((unpack con.ot.hs v).drop (nS con.ot.slots))) (inS con.ar con.ls g.vs).L) con.ot.labs (mkS (lenF (lenT con.ot.labs ((unpack con.ot.hs v).drop (nS con.ot.slots))) (inS con.ar con.ls g.vs).L) con.ot.slots (unpack con.ot.hs v)).2).1.map (·.1):=List.mem_map.2 ⟨_,hp,rfl⟩
        rw [mkL_keys] at h1;exact h1
      exact absurd this hn
    · obtain ⟨⟨l',c0⟩,hp,e⟩:=List.mem_map.1 (mem_of_lget hl)
      simp only [Prod.mk.injEq] at e;obtain ⟨rfl,rfl⟩:=e
      exact ⟨c0,mem_of_lget (ded_mem hp).2,_,mkC_keys _ _ _,rfl⟩
  have hcup_no:∀ {cu:List (Nat × Nat × DV)} {l:Nat} {c0:DC},(cu.map fun c=>(c.1,c.2.1)) = (con.ot.cups.map fun c=>(c.1,c.2.1)) → con.ot.killL.elem l = false → ∀ t x,c0 = .ls t x → cupL cu con.ot.killL l c0 = .ls t x:=by
    intro cu l c0 _ hk t x e;subst e;simp only [cupL,hk]
  have hkept:∀ l,l ∈ keys o.L → keptI τ rl con.ls con.ot l = true → ∃ c,lget rl (τ l) = some c ∧ (lget o.L l).map (DC.rn τ) = some c:=by
    intro l hlo hk
    simp only [keptI,Bool.and_eq_true,Bool.not_eq_true'] at hk
    obtain ⟨⟨⟨k1,k2⟩,k3⟩,k4⟩:=hk
    split at k4
    · rename_i sl hsl
      cases hoc:lget o.L l with
      | none=>exact absurd (by rw [lget_dlb,hoc];rfl) (hmemo.2 hlo)
      | some c=>
        have hn:l ∉ keys con.ot.labs:=fun hm=>by
          have:(keys con.ot.labs).elem l = true:=by simpa using hm
          rw [this] at k1;simp at k1
        obtain ⟨c0,h1,cu,h2,h3⟩:=hbase l c hoc hn
        rw [hLeq] at h1
        obtain ⟨sh,h4,h5⟩:=hx1 _ h1
        have h6:=nodupN_lget c12 h4
        rw [hsl] at h6;simp at h6;subst h6
        unfold lsSame at k4
        split at k4
        · rename_i t t' x hls
          simp at k4;subst k4
          obtain ⟨y,h7,h8⟩:=h5
          simp only at h7 h8
          have h9:=h8 x hls
          subst h9
          exact ⟨_,hls,by rw [h3,hcup_no h2 k2 _ _ h7];rfl⟩
        · rename_i ss ds hls
          obtain ⟨ds',es,h6,h7,h8,h9,h10⟩:=h5
          simp only at h6 h7
          rw [hls] at h6;simp at h6;subst h6
          refine ⟨_,hls,?_⟩
          rw [h3,h7]
          simp only [cupL,k2,Option.map_some,DC.rn]
          have hno:∀ i e0,cupD cu l i e0 = e0:=by
            intro i e0
            rcases cupD_or cu l i e0 with ⟨h13,_⟩ | ⟨q,h13,h14,h15,_⟩
            · exact h13
            · exfalso
              have hm:(q.1,q.2.1) ∈ cu.map (fun c=>(c.1,c.2.1)):=List.mem_map.2 ⟨q,h13,rfl⟩
              rw [h2] at hm
              obtain ⟨q',h16,h17⟩:=List.mem_map.1 hm
              simp at h17
              have:(con.ot.cups.any fun c=>decide (c.1 = l)) = true:=List.any_eq_true.2 ⟨q',h16,by simp [h17.1,h14]⟩
              rw [this] at k3;simp at k3
          congr 2
          refine List.ext_getElem? fun i=>?_
          rw [rnsD_get,cupM_get]
          cases hei:es[i]? with
          | none=>
            have:ds.length ≤ i:=by have:=List.getElem?_eq_none_iff.1 hei;omega
            rw [List.getElem?_eq_none this];rfl
          | some e0=>
            have hlt:i < ds.length:=by have:=(List.getElem?_eq_some_iff.1 hei).1;omega
            have hdi:=List.getElem?_eq_getElem hlt
            have hsi:ss[i]? = some (ss[i]'(by omega)):=List.getElem?_eq_getElem (by omega)
            obtain ⟨e,h11,h12⟩:=h10 i _ _ hsi hdi (allExact_get k4 hsi hdi)
            rw [hei] at h11;simp at h11;subst h11
            simp only [Option.map_some,Nat.zero_add,hno]
            rw [h12,hdi]
        · simp at k4
    · simp at k4
  have hwl:∀ l,l ∈ keys o.L → lget (wlI τ rl con.ls con.ot o.L) (τ l) = if keptI τ rl con.ls con.ot l = true then none else (lget o.L l).map (DC.rn τ):=by
    intro l hl
    unfold wlI
    rw [lget_rn]
    · rw [lget_filter (f:=fun l=>!keptI τ rl con.ls con.ot l)]
      cases keptI τ rl con.ls con.ot l <;> simp
    · intro l' hl' e
      obtain ⟨p,hp,rfl⟩:=List.mem_map.1 hl'
      exact hinj _ _ (hmemo.2 (List.mem_map.2 ⟨p,(List.mem_filter.1 hp).1,rfl⟩)) (hmemo.2 hl) e
  have hstate:∀ (L:Lb) (l:Nat),(∀ l y,lget L2 l = some y → lget L l = some y) → lget (lupd L (dlb (wlI τ rl con.ls con.ot o.L))) l = lget (dlb (rnL τ o.L) ++ L) l:=by
    intro L k' hL
    have hwl_nd':∀ p ∈ dlb (wlI τ rl con.ls con.ot o.L),∀ q ∈ dlb (wlI τ rl con.ls con.ot o.L),p.1 = q.1 → p = q:=by
      intro p hp q hq e
      obtain ⟨p',hp1,rfl⟩:=List.mem_map.1 hp
      obtain ⟨q',hq1,rfl⟩:=List.mem_map.1 hq
      rw [hwl_nd p' hp1 q' hq1 e]
    rw [lget_append,lget_dlb,lget_lupdN hwl_nd',lget_dlb]
    by_cases hk:∃ l ∈ keys o.L,τ l = k'
    · obtain ⟨l,hl,rfl⟩:=hk
      rw [hwl l hl,hrn l hl]
      cases hoc:lget o.L l with
      | none=>exact absurd (by rw [lget_dlb,hoc];rfl) (hmemo.2 hl)
      | some c=>
        cases hkp:keptI τ rl con.ls con.ot l with
        | true=>
          obtain ⟨c1,h1,h2⟩:=hkept l hl hkp
          rw [hoc] at h2;simp at h2
          have hlk:l ∈ keys con.ls:=by
            simp only [keptI,Bool.and_eq_true] at hkp
            have h3:=hkp.2
            split at h3
            · rename_i hls;have:(keys con.ls).elem l = true:=elemK.2 (by rw [hls];simp)
              simpa using this
            · simp at h3
          have h4:lget L (τ l) = some c1.pv:=hL _ _ (by rw [hL2get l hlk,lget_dlb,h1];rfl)
          simp [h4,h2]
        | false=>simp
    · have h1:lget (rnL τ o.L) k' = none:=by
        cases hc:lget (rnL τ o.L) k' with
        | none=>rfl
        | some c=>exact absurd (lget_rn_none (by rw [hc];simp)) hk
      have h2:lget (wlI τ rl con.ls con.ot o.L) k' = none:=by
        cases hc:lget (wlI τ rl con.ls con.ot o.L) k' with
        | none=>rfl
        | some c=>
          obtain ⟨l,h3,h4⟩:=lget_rn_none (L:=o.L.filter fun p=>!keptI τ rl con.ls con.ot p.1) (τ:=τ) (k:=k') (by unfold wlI at hc;rw [hc];simp)
          obtain ⟨p,hp,rfl⟩:=List.mem_map.1 h3
          exact absurd ⟨p.1,List.mem_map.2 ⟨p,(List.mem_filter.1 hp).1,rfl⟩,h4⟩ hk
      rw [h1,h2]
      simp
  have hook:o.ok:=by
    rw [← ho]
    refine app_ok hk1 v ⟨fun t x hx=>by simp [inS,lget] at hx,fun l c hl=>?_⟩
    exact mkL_okk hk2 (l,c) (mem_of_lget hl)
  have hwlok:wlOk (wlI τ rl con.ls con.ot o.L):=by
    intro p hp
    obtain ⟨⟨l,c⟩,hp1,rfl⟩:=List.mem_map.1 hp
    have h1:=hook.2 l c (nodupN_lget c11 (List.mem_filter.1 hp1).1)
    cases c with
    | gone=>trivial
    | ls t x=>trivial
    | cs ds=>exact rns_ok τ h1
  have hdirty:DirtyOK rl (wlI τ rl con.ls con.ot o.L) (dirtyI τ rl con.ls con.ot):=by
    intro p hp
    obtain ⟨⟨l,c⟩,hp1,rfl⟩:=List.mem_map.1 hp
    obtain ⟨hpm,hnk⟩:=List.mem_filter.1 hp1
    have hoc:=nodupN_lget c11 hpm
    have hlo:l ∈ keys o.L:=List.mem_map.2 ⟨_,hpm,rfl⟩
    simp only
    by_cases hlab:l ∈ keys con.ot.labs
    · left
      obtain ⟨q,hq,rfl⟩:=List.mem_map.1 hlab
      simp only [dirtyI,List.mem_append]
      exact .inl (.inl (.inl (List.mem_map.2 ⟨q,hq,rfl⟩)))
    · obtain ⟨c0,h1,cu,h2,h3⟩:=hbase l c hoc hlab
      cases hkl:con.ot.killL.elem l with
      | true=>
        left
        simp only [dirtyI,List.mem_append]
        exact .inl (.inr (List.mem_map.2 ⟨l,by simpa using hkl,rfl⟩))
      | false=>
        rw [hLeq] at h1
        obtain ⟨sh,h4,h5⟩:=hx1 _ h1
        simp only at h4 h5
        have hsh:=nodupN_lget c12 h4
        have hinx:∀ z,z ∈ inexact (τ l) sh (lget rl (τ l)) → z ∈ dirtyI τ rl con.ls con.ot:=by
          intro z hz
          simp only [dirtyI,List.mem_append]
          exact .inr (List.mem_flatMap.2 ⟨(l,sh),h4,hz⟩)
        cases sh with
        | ls t=>
          obtain ⟨y,h6,h7⟩:=h5
          have hnk':keptI τ rl con.ls con.ot l = false:=by simpa using hnk
          have hl1:(keys con.ot.labs).elem l = false:=by simpa using hlab
          simp only [keptI,hl1,hkl,hsh,Bool.not_false,Bool.true_and,Bool.and_eq_false_iff,Bool.not_eq_false'] at hnk'
          rcases hnk' with h8 | h8
          · -- a cell of a list: there is none
            left
            simp only [List.any_eq_true,decide_eq_true_eq] at h8
            obtain ⟨q,hq,rfl⟩:=h8
            exfalso
            have:=List.all_eq_true.1 hk3 q hq
            split at this
            · rename_i ss hss;rw [hsh] at hss;simp at hss
            · simp at this
          · left
            refine hinx _ ?_
            unfold inexact
            simp only
            cases hsl:lget rl (τ l) with
            | none=>simp
            | some c'=>
              cases c' with
              | gone=>simp
              | cs ds=>simp
              | ls t' x=>
                simp only
                rw [hsl] at h8
                simp only [lsSame,decide_eq_false_iff_not] at h8
                rw [if_neg h8];simp
        | cs ss=>
          obtain ⟨ds,es,h6,h7,h8,h9,h10⟩:=h5
          right
          subst h7
          have hcc:c = .cs (cupM cu l 0 es):=by rw [h3];simp only [cupL,hkl]
          subst hcc
          refine ⟨ds,DV.rns τ (cupM cu l 0 es),h6,rfl,by rw [rnsD_len,cupM_len,h8],fun i hi=>?_⟩
          rw [rnsD_get,cupM_get]
          cases hei:es[i]? with
          | none=>
            have:ds.length ≤ i:=by have:=List.getElem?_eq_none_iff.1 hei;omega
            rw [List.getElem?_eq_none this];rfl
          | some e0=>
            have hlt:i < ds.length:=by have:=(List.getElem?_eq_some_iff.1 hei).1;omega
            have hdi:=List.getElem?_eq_getElem hlt
            have hsi:ss[i]? = some (ss[i]'(by omega)):=List.getElem?_eq_getElem (by omega)
            have hex:exactD (ss[i]'(by omega)) ds[i] = true:=by
              refine inexact_mem (k:=τ l) (j:=0) (i:=i) (fun hm=>hi (hinx _ ?_)) hsi hdi
              unfold inexact
              simp only [h6]
              simpa using hm
            obtain ⟨e,h11,h12⟩:=h10 i _ _ hsi hdi hex
            rw [hei] at h11;simp at h11;subst h11
            simp only [Option.map_some,Nat.zero_add]
            rcases cupD_or cu l i e0 with ⟨h13,_⟩ | ⟨q,h13,h14,h15,_⟩
            · rw [h13,h12,hdi]
            · exfalso
              have hm:(q.1,q.2.1) ∈ cu.map (fun c=>(c.1,c.2.1)):=List.mem_map.2 ⟨q,h13,rfl⟩
              rw [h2] at hm
              obtain ⟨q',h16,h17⟩:=List.mem_map.1 hm
              simp at h17
              refine hi ?_
              simp only [dirtyI,List.mem_append]
              exact .inl (.inl (.inr (List.mem_map.2 ⟨q',h16,by rw [h17.1,h17.2,h14,h15]⟩)))
  have hA1:withinL (hasL L2) (DV.pvs args) = true:=by
    rw [hL2k];exact labsL_within c3
  have hA2:∀ l cells,lget L2 l = some (some cells) → withinL (hasL L2) cells = true:=by
    intro l cells hl
    obtain ⟨q,hq,e⟩:=List.mem_map.1 (mem_of_lget hl)
    simp only [Prod.mk.injEq] at e
    obtain ⟨rfl,hc⟩:=e
    rw [hL2k]
    obtain ⟨c,cells',h1,h2,h3⟩:=hin q.1 (List.mem_map.2 ⟨q,hq,rfl⟩)
    rw [h1] at hc
    simp only at hc
    rw [h2] at hc;simp at hc;subst hc
    cases c with
    | gone=>simp [DC.pv] at h2
    | cs ds=>simp [DC.pv] at h2;subst h2;exact labsL_within h3
    | ls t x=>
      simp [DC.pv] at h2;subst h2
      simp only [dcLabsN,Bool.or_eq_true] at h3
      exact fl_withinN h3 _
  have hA3:∀ l,lget L2 l ≠ none → lget (dlb (rnL τ o.L)) l ≠ none:=by
    intro l hl
    have:hasL L2 l = true:=by simpa [hasL,Option.isSome_iff_ne_none] using hl
    rw [hL2k] at this
    simp only [List.elem_eq_mem,decide_eq_true_eq] at this
    obtain ⟨q,hq,rfl⟩:=List.mem_map.1 this
    have hl2:=hdom q hq
    rw [lget_dlb,hrn q hl2]
    cases hoc:lget o.L q with
    | none=>exact absurd (by rw [lget_dlb,hoc];rfl) (hmemo.2 hl2)
    | some c=>simp
  have hA4:∀ l y,lget (dlb (rnL τ o.L)) l = some y → lget L2 l = none → ∃ p ∈ dlb (wlI τ rl con.ls con.ot o.L),p.1 = l:=by
    intro l y hl hn
    have h1:lget (rnL τ o.L) l ≠ none:=fun e=>by rw [lget_dlb,e] at hl;simp at hl
    obtain ⟨q,hq,rfl⟩:=lget_rn_none h1
    have hnl:q ∉ keys con.ls:=fun hm=>by
      have:hasL L2 (τ q) = true:=by rw [hL2k];simp only [List.elem_eq_mem,decide_eq_true_eq];exact List.mem_map.2 ⟨q,hm,rfl⟩
      simp only [hasL,hn] at this;simp at this
    have hnk:keptI τ rl con.ls con.ot q = false:=by
      have:lget con.ls q = none:=by
        cases hc:lget con.ls q with
        | none=>rfl
        | some c=>exact absurd (by have:(keys con.ls).elem q = true:=elemK.2 (by rw [hc];simp)
                                   simpa using this) hnl
      simp only [keptI,this,Bool.and_false]
    obtain ⟨p,hp,rfl⟩:=List.mem_map.1 hq
    exact ⟨(τ p.1,(p.2.rn τ).pv),List.mem_map.2 ⟨(τ p.1,p.2.rn τ),List.mem_map.2 ⟨p,List.mem_filter.2 ⟨hp,by simp [hnk]⟩,rfl⟩,rfl⟩,rfl⟩
  have hl2e:∀ {l:Nat},((keys con.ls).map τ).elem l = true → lget L2 l ≠ none:=fun {l} h=>by
    have:hasL L2 l = true:=by rw [hL2k];exact h
    simpa [hasL,Option.isSome_iff_ne_none] using this
  have hwc:∀ {L:Lb},(∀ l y,lget (dlb rl) l = some y → lget L l = some y) → (∀ p ∈ dlb (wlI τ rl con.ls con.ot o.L),lget (dlb rl) p.1 ≠ none ∨ lget L p.1 = none) →
      (∀ l y,lget L2 l = some y → lget L l = some y) ∧ ∀ p ∈ dlb (wlI τ rl con.ls con.ot o.L),lget L2 p.1 ≠ none ∨ lget L p.1 = none:=by
    intro L h2 h3
    refine ⟨fun l y hl=>h2 l y ?_,fun p hp=>?_⟩
    · rw [← hsub (l,y) (mem_of_lget hl)]
    · rcases h3 p hp with h4 | h4
      · left
        obtain ⟨p',hp1,rfl⟩:=List.mem_map.1 hp
        obtain ⟨⟨l,c⟩,hq1,rfl⟩:=List.mem_map.1 hp1
        have hl:l ∈ keys o.L:=List.mem_map.2 ⟨_,(List.mem_filter.1 hq1).1,rfl⟩
        have:=List.all_eq_true.1 c9 l hl
        simp only [Bool.or_eq_true,Bool.not_eq_true'] at this
        rcases this with h5 | h5
        · refine hl2e ?_
          simp only [List.elem_eq_mem,decide_eq_true_eq] at h5 ⊢;exact List.mem_map.2 ⟨l,h5,rfl⟩
        · exfalso
          simp only at h4
          rw [lget_dlb] at h4
          have:(keys rl).elem (τ l) = true:=elemK.2 fun e=>h4 (by rw [e];rfl)
          rw [this] at h5;simp at h5
      · exact .inr h4
  refine ⟨a,v,_,_,_,L2,_,rfl,hv,rn_ok τ (resV_ok hook),hwlok,hdirty,h,⟨τ,by rw [hu,ho,rn_pv]⟩,fun TT hTT hc0=>by rw [rn_pv];exact hR TT hTT hc0,hA1,hA2,hA3,hA4,hstate,hwc,fun hwk=>?_,fun hwk {L} h2 h4 l cells hl hL=>?_⟩
  · subst hwk
    simp only [wkOK,Bool.or_eq_true,Bool.not_eq_true'] at c14
    rcases c14 with h | h
    · left
      cases hc:lget L2 flab with
      | none=>rfl
      | some y=>
        have:hasL L2 flab = true:=by simp [hasL,hc]
        rw [hL2k] at this
        simp only at this
        rw [this] at h;simp at h
    · exact .inr (hl2e h)
  · subst hwk
    cases hr:lget rl l with
    | none=>exact h4 l cells (by rw [lget_dlb,hr];rfl) hL
    | some c=>
      have e1:=h2 l c.pv (by rw [lget_dlb,hr];rfl)
      rw [hL] at e1
      simp only [wkOK] at c14
      have:=List.all_eq_true.1 c14 (l,c) (mem_of_lget hr)
      simp only [Bool.or_eq_true] at this
      rcases this with h5 | h5
      · exact absurd hl (hl2e h5)
      · exact dcNoF_ok h5 (by simpa using e1.symm)
theorem dCallI_ok {wk:Bool} (hG:E.G = gtPV G) (hE:GOK E) (hal:alOk ra) (hrl:lbOk rl) {fr:Nat} {con:ICon E} {f:FuncId} {fo:Operand} {args:Array Operand} {ts:Array TypeId} {caps xs:List DV} (hf:dev G ra fo = some (.fn f caps)) (hx:devs G ra args.toList = some xs)
    (h:dCallI wk rl fr con.core f (xs ++ caps) k = some r):OpB wk E ⟨d,.call ⟨.value fo,args,ts⟩,ty,pos,after,gg⟩ ra rl k r:=by
  obtain ⟨hf',_⟩:=dev_ok hal hf
  obtain ⟨hx',hxo⟩:=devs_ok hal hx
  rw [← hG] at hf' hx'
  obtain ⟨a,v,x,wl,dl,L2,LL,rfl,hv,hxk,hwlok,hdirty,h,_,hR,hA1,hA2,hA3,hA4,hstate,hwc,hs1,hs2⟩:=dCallI_core hE hrl h
  have hcall:ACalls E con.f (DV.pvs xs ++ DV.pvs caps) L2 fun r L'=>r = x.pv ∧ L' = LL:=by
    rw [← pvs_append]
    exact hR (fun w cargs R=>Calls E.P con.f cargs.toArray w R) (fun w cargs R R' hr h=>h.mono hr) (con.ok a v hv)
  rw [pvs_append] at hA1
  refine ⟨_,_,_,?_,hxk,hwlok,hdirty,h⟩
  cases wk with
  | false=>
    have hA:AOp E ⟨d,.call ⟨.value fo,args,ts⟩,ty,pos,after,gg⟩ (dal ra) L2 x.pv (dlb wl):=
      AOp_callG (caps:=DV.pvs caps) (xs:=DV.pvs xs) (LL:=LL) hE hf' hx' con.run hcall hA1 hA2 hA3 hA4 hstate (hs1 rfl)
    intro A w σ al L a r h1 h2 h3
    obtain ⟨k1,k2⟩:=hwc h2 h3
    exact hA A w σ al L a r h1 k1 k2
  | true=>
    have hA:AOpW E ⟨d,.call ⟨.value fo,args,ts⟩,ty,pos,after,gg⟩ (dal ra) L2 x.pv (dlb wl):=
      AOp_callW (caps:=DV.pvs caps) (xs:=DV.pvs xs) (LL:=LL) hE hf' hx' con.run hcall hA1 hA2 hA3 hA4 hstate
    intro A w σ al L a r h1 h2 h3 h4
    obtain ⟨k1,k2⟩:=hwc h2 h3
    exact hA A w σ al L a r h1 k1 k2 (hs2 rfl h2 h4)
def dCallO {E:Env} (wk:Bool) (G:GTab) (con:Option (ICon E)) (o:Oper) (al:DAl) (L:DLb) (nl:Nat) {R:Type} (k:DV → DLb → DL → Option R):Option R:=match o.op with
  | .call ⟨.value fo,args,_⟩=>match dev G al fo with
    | some (.fn f caps)=>match devs G al args.toList with
      | some xs=>match con with
        | some con=>dCallI wk L nl con.core f (xs ++ caps) k
        | none=>none
      | none=>none
    | _=>none
  | _=>none
theorem dCallO_ok {wk:Bool} (hG:E.G = gtPV G) (hE:GOK E) (hal:alOk ra) (hrl:lbOk rl) {con:Option (ICon E)} {o:Oper} {nl:Nat} (h:dCallO wk G con o ra rl nl k = some r):OpB wk E o ra rl k r:=by
  obtain ⟨dst,op,ty,pos,after,g⟩:=o
  unfold dCallO at h
  simp only at h
  split at h
  · split at h
    · rename_i hf
      split at h
      · rename_i hx
        split at h
        · exact dCallI_ok hG hE hal hrl hf hx h
        · simp at h
      · simp at h
    · simp at h
  · simp at h
/-- What a round of a range over a function does: it goes on. -/
structure YCon (E:Env) where
  y:Nat
  ar:List Sh
  ls:List (Nat × LSh)
  ot:Tm
  fn:HT (Sh.hss ar ++ hsL ls) → Option ot.T
  ok:∀ a v,fn a = some v → ∀ ro cvs cxs,cvs.length + cxs.length = ar.length → cxs.length = (SentA.yt y).ps.length →
    CoreT E ⟨0,ar,ls,ot,fn⟩ a v (yieldT ro E.P (SentA.yt y).n (SentA.yt y).ps (SentA.yt y).assign (SentA.yt y).body (SentA.yt y).ts cvs cxs)
  res:∀ v vs,(resV (ot.app v (inS ar ls vs))).pv = .bool true
def YCon.core {E:Env} (c:YCon E):ICore:=⟨0,c.ar,c.ls,c.ot,c.fn⟩
def dYld {E:Env} (G:GTab) (con:YCon E) (o:Oper) (al:DAl) (L:DLb) (nl:Nat) {R:Type} (k:DLb → DL → Option R):Option R:=match o.op with
  | .call ⟨.value fo,args,_⟩=>match dev G al fo with
    | some (.yl i vs)=>match Nat.beq i con.y with
      | true=>match devs G al args.toList with
        | some xs=>match Nat.beq xs.length (SentA.yt con.y).ps.length with
          | true=>match Nat.beq (vs.length + xs.length) con.ar.length with
            | true=>dCallI false L nl con.core 0 (vs ++ xs) fun _ wl dl=>k wl dl
            | false=>none
          | false=>none
        | none=>none
      | false=>none
    | _=>none
  | _=>none
theorem dYld_ok {K:Nat → Prop} {n:Nat} {Q:Exit → Al → Lb → Prop} {ops:Array Oper} {rest:List Oper} (hG:E.G = gtPV G) (hE:GOK E) {s:St} (hs:s.ok) {con:YCon E} {o:Oper} {nl:Nat} {k:DLb → DL → Option R} (h:dYld G con o s.al s.L nl k = some r)
    (hd:∀ t,o.dst = some t → t < n) (hg:wants ops (dal s.al) o = some true) :
    ∃ wl dl,wlOk wl ∧ DirtyOK s.L wl dl ∧ k wl dl = some r ∧ (AWl E K n ops rest Q (oset o.dst (.bool true) (dal s.al)) (lupd (dlb s.L) (dlb wl)) → AWl E K n ops (o :: rest) Q (dal s.al) (dlb s.L)):=by
  obtain ⟨dst,op,ty,pos,after,gu⟩:=o
  unfold dYld at h
  simp only at h
  split at h
  rotate_left
  · simp at h
  rename_i fo args ts
  split at h
  rotate_left
  · simp at h
  rename_i i vs hf
  split at h
  rotate_left
  · simp at h
  rename_i hi
  have hi:=Nat.eq_of_beq_eq_true hi
  subst hi
  split at h
  rotate_left
  · simp at h
  rename_i xs hx
  split at h
  rotate_left
  · simp at h
  rename_i hl1
  have hl1:=Nat.eq_of_beq_eq_true hl1
  split at h
  rotate_left
  · simp at h
  rename_i hl2
  have hl2:=Nat.eq_of_beq_eq_true hl2
  obtain ⟨hf',_⟩:=dev_ok hs.1 hf
  obtain ⟨hx',_⟩:=devs_ok hs.1 hx
  rw [← hG] at hf' hx'
  obtain ⟨a,v,x,wl,dl,L2,LL,_,hv,hxk,hwlok,hdirty,h,⟨τ,hxe⟩,hR,hA1,hA2,hA3,hA4,hstate,hwc,hs1,hs2⟩:=dCallI_core hE hs.2 h
  refine ⟨wl,dl,hwlok,hdirty,h,fun kk=>?_⟩
  have hxt:x.pv = .bool true:=by
    rw [hxe]
    have e:(resV (con.core.ot.app v (inS con.core.ar con.core.ls (unpack (Sh.hss con.core.ar ++ hsL con.core.ls) a)))).pv = .bool true:=con.res v _
    rw [e];rfl
  rw [pvs_append] at hA1
  obtain ⟨k1,k2⟩:=hwc (L:=dlb s.L) (fun _ _ h=>h) fun p _=>by
    cases hc:lget (dlb s.L) p.1 with
    | none=>exact .inr rfl
    | some y=>exact .inl (by simp)
  refine AWl_yield (vs:=DV.pvs vs) (xs:=DV.pvs xs) (rl:=L2) (LL:=LL) (wl:=dlb wl) hE hf' hx' (by rw [pvs_length];exact hl1.symm) (fun cvs cxs e1 e2=>?_) hA1 hA2 hA3 hA4 hstate (hs1 rfl) k1 k2 hd hg kk
  rw [pvs_length] at e1 e2
  have:=hR _ yieldT_mono (con.ok a v hv E.ro cvs cxs (by omega) (by omega))
  rw [pvs_append,hxt] at this
  exact this
/-- The contracts at hand. -/
structure CT (E:Env) where
  p:Nat → Option (PCon E)
  i:Nat → Option (ICon E)
  y:Nat → Option (YCon E)
def dOpX (E:Env) (G:GTab) (C:CT E) (oh:OH) (o:Oper) (al:DAl) (L:DLb) (nl:Nat) {R:Type} (k:DV → DLb → DL → Option R):Option R:=match oh.io with
  | none=>dOp E G C.p oh o al L nl k
  | some j=>dCallO false G (C.i j) o al L nl k
theorem dOpX_ok (hG:E.G = gtPV G) (hE:GOK E) {C:CT E} {oh:OH} {o:Oper} {nl:Nat} (hal:alOk ra) (hrl:lbOk rl) (hn:lget rl nl = none) (h:dOpX E G C oh o ra rl nl k = some r):OpS E o ra rl k r:=by
  unfold dOpX at h
  split at h
  · exact dOp_ok hG hE hal hrl hn h
  · exact dCallO_ok hG hE hal hrl h
end
end Go.SH
namespace Go.SH
variable [SentA]
theorem freeze_val {w:World} {σ:Sig} {A:Nat → Prop} {L:Lb} (hb:BR w σ A L) {l off n sz:Nat} {co:Option Nat} {cells part:List PV} (hl:lget L l = some (some cells)) (hp:(cells.drop off).take (n * sz) = part) (hin:off + n * sz ≤ cells.length)
    (hpure:withinL (fun _=>false) part = true) {v:Value} (h:VR w σ (avo A σ L) (.rw l off n sz co) v):VR w σ (avo A σ (lset L l none)) (.ro part n none) v:=by
  have hav:∀ β,avOf σ (lset L l none) β → avOf σ L β:=by
    rintro β (⟨k,d,a,s,hk,hs⟩ | h)
    · rw [lget_lset] at hk
      split at hk
      · simp at hk
      · exact .inl ⟨k,d,a,s,hk,hs⟩
    · exact .inr h
  have h1:∀ β,¬ avo A σ L β → ¬ avo A σ (lset L l none) β:=fun β hn h=>hn (h.imp id (hav β))
  cases h with
  | rwE a hc=>
    have:part = []:=by rw [← hp];simp
    subst this
    exact .roE a 0 (by simp)
  | @rw _ _ _ _ _ β add size cap hs hn hc hsz=>
    rcases hb.all l cells hl with ⟨h3,h4⟩ | ⟨β',add',size',c,T,fr,hB⟩
    · rw [hs] at h3;simp at h3
    · have:=hB.sig;rw [hs] at this;simp at this
      obtain ⟨rfl,rfl,rfl⟩:=this
      have hlen:part.length = n * sz:=by rw [← hp];simp;omega
      have hlt:β < w.heap.size:=(Array.getElem?_eq_some_iff.1 hB.heap).1
      have hna:¬ avo A σ (lset L l none) β:=by
        rintro (hA | ⟨k,d,a,s,hk,hks⟩ | ⟨q,ad,hq⟩)
        rotate_left 2
        · exact (hb.fr.fam q β ad hq).2 ⟨l,cells,add,size,hl,hs⟩
        · exact (hb.lo β hA).2 (.inl ⟨l,cells,add,size,hl,hs⟩)
        · rw [lget_lset] at hk
          split at hk
          · simp at hk
          · rename_i hne;exact hne (hb.inj l k cells d β add size a s hl hk hs hks)
      have get:∀ i x,part[i]? = some x → cells[off + i]? = some x:=by
        intro i x hx
        rw [← hp,List.getElem?_take] at hx
        split at hx
        · rw [List.getElem?_drop] at hx;exact hx
        · simp at hx
      let f:Nat → Value:=fun i=>(c[add + off + i]?).getD undef
      refine .ro ((List.range (n * sz)).map f) ⟨hlt,hna,fun i v hv=>?_⟩ (by simp [hlen]) (fun i x v hx hv=>?_) hn (by simp)
      · have hi:i < n * sz:=by have:=(List.getElem?_eq_some_iff.1 hv).1;simpa using this
        have hi2:i < part.length:=by omega
        obtain ⟨u,h5,h6⟩:=hB.vals _ _ (get i _ (List.getElem?_eq_getElem hi2))
        rw [cell_of_heap hB.heap]
        rw [← Nat.add_assoc] at h5
        simp [List.getElem?_range hi,f,h5] at hv
        rw [h5,hv]
      · have hi:i < n * sz:=by have:=(List.getElem?_eq_some_iff.1 hv).1;simpa using this
        obtain ⟨u,h5,h6⟩:=hB.vals _ _ (get i x hx)
        rw [← Nat.add_assoc] at h5
        simp [List.getElem?_range hi,f,h5] at hv
        rw [← hv]
        exact h6.pure (withinL_get hpure hx) h1
theorem Weak.frz {E:Env} {K:Nat → Prop} {al:Al} {L:Lb} {lab:Nat} {cells:List PV} (hl:lget L lab = some (some cells)) {t off n sz:Nat} {co:Option Nat} (ht:lget al t = some (.rw lab off n sz co)) {part ys:List PV}
    (hp:(cells.drop off).take (n * sz) = part) (hin:off + n * sz ≤ cells.length) (hpu:withinL (fun _=>false) part = true) (hle:CLe part ys):Weak E K al L ((t,.ro ys n none) :: al) (lset L lab none):=by
  intro A w σ a r
  obtain ⟨hb,hg⟩:=r.blocks.drop lab
  have r':=r.grow hb hg
  refine ⟨σ,⟨fun u x hx=>?_,hb,r'.globals,r'.nodefer⟩,hg.weaken fun _ _=>trivial⟩
  rw [lget] at hx
  split at hx
  · rename_i e;subst e;simp at hx;subst hx
    obtain ⟨v,h1,h2⟩:=r.tmps t _ ht
    exact ⟨v,h1,PLe.ro hle _ _ _ _ (freeze_val r.blocks hl hp hin hpu h2)⟩
  · exact r'.tmps u x hx
/-- Which function it is. -/
def fkS {R:Type} (i:Nat) (k:DV → Option R):List FuncId → Nat → Option R
  | [],_=>none
  | f :: r,j=>cond (Nat.beq i j) (k (.fn f [])) (fkS i k r (j + 1))
def fkK {R:Type} (fs:List FuncId) (i:Nat) (k:DV → Option R):Option R:=cond (Nat.beq i 0) (k .nilf) (fkS i k fs 1)
theorem fkS_ok {R:Type} {r:R} {i:Nat} {k:DV → Option R}:∀ {fs:List FuncId} {j:Nat},fkS i k fs j = some r → ∃ m f,i = j + m ∧ fs[m]? = some f ∧ k (.fn f []) = some r
  | [],j,h=>by simp [fkS] at h
  | f :: fs,j,h=>by
    simp only [fkS] at h
    cases e:Nat.beq i j with
    | true=>rw [e] at h;exact ⟨0,f,Nat.eq_of_beq_eq_true e,rfl,h⟩
    | false=>
      rw [e] at h
      obtain ⟨m,g,h1,h2,h3⟩:=fkS_ok h
      exact ⟨m + 1,g,by omega,by simpa using h2,h3⟩
theorem fkK_ok {R:Type} {r:R} {fs:List FuncId} {i:Nat} {k:DV → Option R} (h:fkK fs i k = some r):∃ d,d.pv = fnK fs i ∧ d.ok ∧ k d = some r:=by
  unfold fkK at h
  cases e:Nat.beq i 0 with
  | true=>rw [e] at h;rw [Nat.eq_of_beq_eq_true e];exact ⟨.nilf,rfl,trivial,h⟩
  | false=>
    rw [e] at h
    obtain ⟨m,f,rfl,h2,h3⟩:=fkS_ok h
    refine ⟨.fn f [],?_,trivial,h3⟩
    rw [Nat.add_comm]
    simp [fnK,h2,DV.pv,DV.pvs]
theorem Weak.same {E:Env} {K:Nat → Prop} {al al':Al} {L:Lb} (h:∀ t x,lget al' t = some x → lget al t = some x):Weak E K al L al' L:=fun A w σ a r=>
  ⟨σ,⟨fun u x hx=>r.tmps u x (h u x hx),r.blocks,r.globals,r.nodefer⟩,Grow.refl _ _ _ _⟩
def dFz {R:Type}:List (Nat × ET) → St → (St → Option R) → Option R
  | [],s,k=>k s
  | (t,e) :: r,s,k=>match lget s.al t with
    | some (.rw lab sz off n co w)=>if pureAt s.L lab = true then srcL s.L e (.rw lab sz off n co w) fun l=>
        dFz r { al:=(t,.sl e l) :: s.al,L:=lset s.L lab .gone,ds:=t :: s.ds,dl:=(lab,none) :: s.dl } k else none
    | some (.fk fs i)=>fkK fs i fun d=>dFz r { s with al:=(t,d) :: s.al,ds:=t :: s.ds } k
    | some _=>dFz r s k
    | none=>none
section
variable {E:Env} {K:Nat → Prop} {n:Nat} {Q:Exit → Al → Lb → Prop} {ops:Array Oper} {rest:List Oper} {R:Type} {r:R}
theorem dFz_ok:∀ {fz:List (Nat × ET)} {s:St} {k:St → Option R},dFz fz s k = some r → s.ok → ∃ s',Up s s' ∧ s'.ok ∧ k s' = some r ∧ Weak E K (dal s.al) (dlb s.L) (dal s'.al) (dlb s'.L)
  | [],s,k,h,hs=>⟨s,.refl s,hs,h,.refl⟩
  | (t,e) :: fz,s,k,h,hs=>by
    simp only [dFz] at h
    split at h
    · rename_i lab sz off n co w ht
      split at h
      · rename_i hp
        obtain ⟨l,cells,hc,h'⟩:=srcL_ok h
        clear h
        obtain ⟨cc,c1,c2,c3,c4,c5⟩:=hc.rw _ _ _ _ _ _ rfl
        subst c5;subst c3
        have hu:Up s { al:=(t,.sl e l) :: s.al,L:=lset s.L lab .gone,ds:=t :: s.ds,dl:=(lab,none) :: s.dl }:=by
          have h1:=wr_up (s:=s) (wl:=[(lab,.gone)]) (dl:=[(lab,none)]) (fun p hp=>by simp at hp;subst hp;exact .inl (by simp))
          exact h1.trans (set_up _ (some t) (.sl e l))
        have ho:St.ok { al:=(t,.sl e l) :: s.al,L:=lset s.L lab .gone,ds:=t :: s.ds,dl:=(lab,none) :: s.dl }:=by
          have h1:=wr_ok hs (wl:=[(lab,.gone)]) (dl:=[(lab,none)]) (fun p hp=>by simp at hp;subst hp;trivial)
          exact set_ok h1 (d:=some t) (x:=.sl e l) trivial
        have hw:Weak E K (dal s.al) (dlb s.L) (dal ((t,.sl e l) :: s.al)) (dlb (lset s.L lab .gone)):=by
          have e1:dlb (lset s.L lab .gone) = lset (dlb s.L) lab none:=(lset_map DC.pv s.L lab .gone).symm
          rw [e1]
          refine Weak.frz c1 (off:=off * e.sz) (sz:=e.sz) (n:=l.length) (co:=co) (by rw [lget_dal,ht];rfl) c4 c2 ?_ hc.le
          rw [← c4]
          unfold pureAt at hp
          split at hp
          · rename_i c hcc
            rw [lget_dlb,hcc] at c1
            exact part_pure (dcPure_ok hp (by simpa using c1)) _ _
          · simp at hp
        obtain ⟨s',u',o',k',w'⟩:=dFz_ok h' ho
        exact ⟨s',hu.trans u',o',k',hw.trans w'⟩
      · simp at h
    · rename_i fs i ht
      obtain ⟨d,e1,e2,h⟩:=fkK_ok h
      obtain ⟨s',u',o',k',w'⟩:=dFz_ok h (set_ok hs (d:=some t) (x:=d) e2)
      refine ⟨s',(set_up s (some t) d).trans u',o',k',Weak.trans (Weak.same fun u x hx=>?_) w'⟩
      rw [lget_dal] at hx ⊢
      simp only [lget] at hx
      split at hx
      · rename_i e;subst e
        rw [ht];simp only [Option.map_some] at hx ⊢
        rw [← hx,e1];rfl
      · exact hx
    · exact dFz_ok h hs
    · simp at h
/-- Nothing of a family. -/
def okF (d:DV):Bool:=d.labs noF && d.noF
def St.dropF (s:St):St:=
  let ts:=(s.al.filter fun p=>!okF p.2).map (·.1)
  { s with al:=ded ts s.al,ds:=ts ++ s.ds }
theorem dropF_mem {s:St} {p:Nat × DV} (h:p ∈ s.dropF.al):lget s.al p.1 = some p.2 ∧ okF p.2 = true:=by
  obtain ⟨h1,h2⟩:=ded_mem h
  refine ⟨h2,?_⟩
  cases hk:okF p.2 with
  | true=>rfl
  | false=>exact absurd (List.mem_map.2 ⟨(p.1,p.2),List.mem_filter.2 ⟨mem_of_lget h2,by simp [hk]⟩,rfl⟩) h1
theorem dropF_up (s:St):Up s s.dropF:=fun b h=>⟨fun t ht=>by
  simp only [St.dropF,List.mem_append,not_or] at ht ⊢
  rw [ded_get ht.1];exact h.sl t ht.2,h.lb,h.ce⟩
theorem dropF_ok {s:St} (h:s.ok):s.dropF.ok:=⟨fun t x hx=>h.1 t x (dropF_mem (mem_of_lget hx)).1,h.2⟩
theorem dropF_noF (s:St) (t:Nat) (x:PV) (hx:lget (dal s.dropF.al) t = some x):within noF x = true:=by
  rw [lget_dal] at hx
  cases hd:lget s.dropF.al t with
  | none=>rw [hd] at hx;simp at hx
  | some d=>
    rw [hd] at hx;simp at hx;subst hx
    have:=(dropF_mem (mem_of_lget hd)).2
    simp only [okF,Bool.and_eq_true] at this
    exact labs_withinN this.1 (.inl this.2)
theorem dropF_weak (s:St):Weak E K (dal s.al) (dlb s.L) (dal s.dropF.al) (dlb s.dropF.L):=Weak.sub fun p hp=>by
  obtain ⟨q,hq,rfl⟩:=List.mem_map.1 hp
  simp only;rw [lget_dal,(dropF_mem hq).1];rfl
/-- The two families trade places. -/
def sq:Nat → Nat
  | 1=>2
  | 2=>1
  | n=>n
theorem sq_sq (n:Nat):sq (sq n) = n:=by
  match n with
  | 0=>rfl
  | 1=>rfl
  | 2=>rfl
  | n + 3=>rfl
/-- A cell where the families trade places. -/
def SwC (x y:PV):Prop:=(x = y ∧ within noF x = true) ∨ ∃ q c n co,x = .fs q c n co ∧ withinL (fun _=>false) c = true ∧ y = .fs (sq q) c n co
theorem VR.sw {w:World} {σ:Sig} {av:Nat → Prop} {x y:PV} {v:Value} (h:VR w σ av x v) (hs:SwC x y):VR w ⟨σ.lab,fun q β add=>σ.fam (sq q) β add⟩ av y v:=by
  rcases hs with ⟨rfl,hn⟩ | ⟨q,c,n,co,rfl,hc,rfl⟩
  · exact h.monoN hn (fun _ _ _ h=>h) (Nat.le_refl _) fun _ _ h=>⟨h,rfl⟩
  · cases h with
    | fsE a cap hc=>exact .fsE a cap hc
    | fs hf hh hfr hl hv hn hc' hz=>exact .fs (by simpa [sq_sq] using hf) hh hfr hl (fun i x v hx hv'=>(hv i x v hx hv').pure (withinL_get hc hx) fun _ h=>h) hn hc' hz
theorem Weak.recol {al:Al} {L L':Lb} (hal:∀ t x,lget al t = some x → within noF x = true) (hK:¬ K fkeep) (hG:GOK E)
    (hL:∀ l,(lget L l = none ∧ lget L' l = none) ∨ (lget L l = some none ∧ lget L' l = some none) ∨ ∃ xs ys,lget L l = some (some xs) ∧ lget L' l = some (some ys) ∧ xs.length = ys.length ∧ ∀ (i:Nat) (x y:PV),xs[i]? = some x → ys[i]? = some y → SwC x y):Weak E K al L al L':=by
  intro A w σ a r
  let σ':Sig:=⟨σ.lab,fun q β add=>σ.fam (sq q) β add⟩
  have hlav:∀ β,labOf σ' L' β ↔ labOf σ L β:=by
    intro β
    constructor
    · rintro ⟨l,c,a,s,h1,h2⟩
      rcases hL l with ⟨_,h⟩ | ⟨_,h⟩ | ⟨xs,ys,h,h',_⟩
      · rw [h] at h1;simp at h1
      · rw [h] at h1;simp at h1
      · exact ⟨l,xs,a,s,h,h2⟩
    · rintro ⟨l,c,a,s,h1,h2⟩
      rcases hL l with ⟨h,_⟩ | ⟨h,_⟩ | ⟨xs,ys,h,h',_⟩
      · rw [h] at h1;simp at h1
      · rw [h] at h1;simp at h1
      · exact ⟨l,ys,a,s,h',h2⟩
  have hfm:∀ β,famOf σ' β ↔ famOf σ β:=fun β=>⟨fun ⟨q,ad,h⟩=>⟨sq q,ad,h⟩,fun ⟨q,ad,h⟩=>⟨sq q,ad,by show σ.fam (sq (sq q)) β ad;rw [sq_sq];exact h⟩⟩
  have hav:∀ β,avOf σ' L' β ↔ avOf σ L β:=fun β=>or_congr (hlav β) (hfm β)
  have havo:avo A σ' L' = avo A σ L:=by
    funext β
    show (A β ∨ avOf σ' L' β) = (A β ∨ avOf σ L β)
    rw [propext (hav β)]
  have hsw:∀ {x y v},VR w σ (avo A σ L) x v → SwC x y → VR w σ' (avo A σ' L') y v:=fun h hs=>by rw [havo];exact h.sw hs
  refine ⟨σ',⟨fun t x hx=>let ⟨v,h1,h2⟩:=r.tmps t x hx;⟨v,h1,hsw h2 (.inl ⟨rfl,hal t x hx⟩)⟩,⟨?_,?_,?_,?_,?_⟩,fun g cells hg=>hsw (r.globals g cells hg) (.inl ⟨rfl,within_false (by simp [pureV,within,hG g cells hg])⟩),r.nodefer⟩,
    ⟨Nat.le_refl _,fun _ _ _ h=>h,fun β _ hn=>⟨fun h=>hn ((hav β).1 h),rfl⟩,⟨rfl,rfl,rfl⟩,fun k=>absurd k hK⟩⟩
  · intro l ys hl
    rcases hL l with ⟨_,h⟩ | ⟨_,h⟩ | ⟨xs,ys',h1,h2,h3,h4⟩
    · rw [h] at hl;simp at hl
    · rw [h] at hl;simp at hl
    · rw [h2] at hl;simp at hl;subst hl
      rcases r.blocks.all l xs h1 with ⟨h5,h6⟩ | ⟨β,add,size,c,T,fr,hB⟩
      · exact .inl ⟨h5,by subst h6;exact List.eq_nil_of_length_eq_zero h3.symm⟩
      · refine .inr ⟨β,add,size,c,T,fr,⟨hB.sig,hB.heap,hB.hsz,h3 ▸ hB.fits,fun i y hy=>?_,hB.frs⟩⟩
        have hi:i < xs.length:=by rw [h3];exact (List.getElem?_eq_some_iff.1 hy).1
        obtain ⟨v,h7,h8⟩:=hB.vals i _ (List.getElem?_eq_getElem hi)
        exact ⟨v,h7,hsw h8 (h4 i _ y (List.getElem?_eq_getElem hi) hy)⟩
  · intro l l' c c' β a s a' s' h1 h2 h3 h4
    rcases hL l with ⟨_,h5⟩ | ⟨_,h5⟩ | ⟨xs,_,h5,_⟩
    · rw [h5] at h1;simp at h1
    · rw [h5] at h1;simp at h1
    · rcases hL l' with ⟨_,h6⟩ | ⟨_,h6⟩ | ⟨xs',_,h6,_⟩
      · rw [h6] at h2;simp at h2
      · rw [h6] at h2;simp at h2
      · exact r.blocks.inj l l' xs xs' β a s a' s' h5 h6 h3 h4
  · intro l x hx
    have:=r.blocks.dom l x hx
    rcases hL l with ⟨h,_⟩ | ⟨_,h⟩ | ⟨_,_,_,h,_⟩
    · exact absurd h this
    · rw [h];simp
    · rw [h];simp
  · intro β hA
    exact ⟨(r.blocks.lo β hA).1,fun h=>(r.blocks.lo β hA).2 ((hav β).1 h)⟩
  · refine ⟨fun q β add h=>⟨(r.blocks.fr.fam _ β add h).1,fun k=>(r.blocks.fr.fam _ β add h).2 ((hlav β).1 k)⟩,fun q β add h=>r.blocks.fr.cel _ β add h,fun q q' β add add' h h'=>?_⟩
    obtain ⟨e1,e2⟩:=r.blocks.fr.one _ _ β add add' h h'
    refine ⟨?_,e2⟩
    have:=congrArg sq e1
    simpa [sq_sq] using this
/-- A list of a family's slices where the families trade places. -/
def famQ:(t:ET) → List t.T → Option DC
  | .tf q t,x=>if t.noF = true then some (.ls (.tf (sq q) t) x) else none
  | _,_=>none
def swW (L:DLb):DLb → Option DLb
  | []=>some []
  | (l,_) :: r=>match lget L l with
    | some (.ls t x)=>match famQ t x with
      | some c=>match swW L r with
        | some wl=>some ((l,c) :: wl)
        | none=>none
      | none=>if t.noF = true then swW L r else none
    | some c=>if dcNoF c = true then swW L r else none
    | none=>swW L r
/-- How a label's cells are told behind it. -/
def SwD (c c':DC):Prop:=(c = c' ∧ dcNoF c = true) ∨ ∃ t x,c = .ls t x ∧ famQ t x = some c'
theorem swW_ok {L:DLb}:∀ {r wl:DLb},swW L r = some wl → (∀ p ∈ wl,∃ c,lget L p.1 = some c ∧ SwD c p.2) ∧ ∀ p ∈ r,p.1 ∈ keys wl ∨ ∀ c,lget L p.1 = some c → dcNoF c = true
  | [],wl,h=>by simp [swW] at h;subst h;simp
  | (l,_) :: r,wl,h=>by
    simp only [swW] at h
    split at h
    · rename_i t x hl
      split at h
      · rename_i c hc
        split at h
        · rename_i wl' hw
          simp at h;subst h
          obtain ⟨h1,h2⟩:=swW_ok hw
          refine ⟨fun p hp=>?_,fun p hp=>?_⟩
          · rcases List.mem_cons.1 hp with rfl | hp
            · exact ⟨_,hl,.inr ⟨t,x,rfl,hc⟩⟩
            · exact h1 p hp
          · rcases List.mem_cons.1 hp with rfl | hp
            · exact .inl (by simp [keys])
            · exact (h2 p hp).imp (fun h=>by simp only [keys,List.map_cons,List.mem_cons];exact .inr h) id
        · simp at h
      · split at h
        · rename_i ht
          obtain ⟨h1,h2⟩:=swW_ok h
          refine ⟨h1,fun p hp=>?_⟩
          rcases List.mem_cons.1 hp with rfl | hp
          · exact .inr fun c hc=>by simp only at hc;rw [hl] at hc;simp at hc;subst hc;exact ht
          · exact h2 p hp
        · simp at h
    · rename_i c hcn hl
      split at h
      · rename_i hd
        obtain ⟨h1,h2⟩:=swW_ok h
        refine ⟨h1,fun p hp=>?_⟩
        rcases List.mem_cons.1 hp with rfl | hp
        · exact .inr fun c hc=>by simp only at hc;rw [hl] at hc;simp at hc;subst hc;exact hd
        · exact h2 p hp
      · simp at h
    · rename_i hl
      obtain ⟨h1,h2⟩:=swW_ok h
      refine ⟨h1,fun p hp=>?_⟩
      rcases List.mem_cons.1 hp with rfl | hp
      · exact .inr fun c hc=>by simp only at hc;rw [hl] at hc;simp at hc
      · exact h2 p hp
theorem swD_cells {c c':DC} (h:SwD c c'):(c.pv = none ∧ c'.pv = none) ∨ ∃ xs ys,c.pv = some xs ∧ c'.pv = some ys ∧ xs.length = ys.length ∧ ∀ (i:Nat) (x y:PV),xs[i]? = some x → ys[i]? = some y → SwC x y:=by
  rcases h with ⟨rfl,h⟩ | ⟨t,x,rfl,h⟩
  · cases hc:c.pv with
    | none=>exact .inl ⟨rfl,rfl⟩
    | some xs=>exact .inr ⟨xs,xs,rfl,rfl,rfl,fun i x y hx hy=>.inl ⟨by rw [hx] at hy;simpa using hy,withinL_get (dcNoF_ok h hc) hx⟩⟩
  · right
    unfold famQ at h
    split at h
    · rename_i q t x
      split at h
      · rename_i ht
        simp at h;subst h
        refine ⟨_,_,rfl,rfl,?_,fun i a b ha hb=>?_⟩
        · rw [fl_length,fl_length,el_sz,el_sz];rfl
        · have e1:∀ q (l:List (List t.T)),fl (el (.tf q t)) l = l.map fun x=>PV.fs q (fl (el t) x) x.length none:=fun q l=>by
            induction l with
            | nil=>rfl
            | cons x l ih=>rw [fl_cons,ih];rfl
          rw [e1] at ha hb
          simp only [List.getElem?_map,Option.map_eq_some_iff] at ha hb
          obtain ⟨z,hz,rfl⟩:=ha
          obtain ⟨z',hz',rfl⟩:=hb
          have hz2:(x:List (List t.T))[i]? = some z':=hz'
          rw [hz] at hz2;simp at hz2;subst hz2
          exact .inr ⟨_,_,_,_,rfl,fl_noF ht z,rfl⟩
      · simp at h
    · simp at h
theorem swW_weak {s:St} {wl:DLb} (h:swW s.L s.L = some wl) (hal:∀ t x,lget (dal s.al) t = some x → within noF x = true) (hK:¬ K fkeep) (hG:GOK E) :
    Weak E K (dal s.al) (dlb s.L) (dal s.al) (dlb (lupd s.L wl)):=by
  obtain ⟨h1,h2⟩:=swW_ok h
  refine Weak.recol hal hK hG fun l=>?_
  rw [lget_dlb,lget_dlb]
  have key:∀ {c c'},lget s.L l = some c → lget (lupd s.L wl) l = some c' → SwD c c' → (Option.map DC.pv (lget s.L l) = none ∧ Option.map DC.pv (lget (lupd s.L wl) l) = none) ∨ (Option.map DC.pv (lget s.L l) = some none ∧ Option.map DC.pv (lget (lupd s.L wl) l) = some none) ∨ ∃ xs ys,Option.map DC.pv (lget s.L l) = some (some xs) ∧ Option.map DC.pv (lget (lupd s.L wl) l) = some (some ys) ∧ xs.length = ys.length ∧ ∀ (i:Nat) (x y:PV),xs[i]? = some x → ys[i]? = some y → SwC x y:=by
    intro c c' e1 e2 hs
    rw [e1,e2]
    rcases swD_cells hs with ⟨h3,h4⟩ | ⟨xs,ys,h3,h4,h5,h6⟩
    · exact .inr (.inl ⟨by simp [h3],by simp [h4]⟩)
    · exact .inr (.inr ⟨xs,ys,by simp [h3],by simp [h4],h5,h6⟩)
  rcases lget_lupdG wl s.L l with ⟨p,hp,rfl,h3⟩ | ⟨h3,h4⟩
  · obtain ⟨c,h5,h6⟩:=h1 p hp
    exact key h5 h3 h6
  · cases hc:lget s.L l with
    | none=>exact .inl ⟨rfl,by rw [h4,hc];rfl⟩
    | some c=>
      rw [hc] at key h4
      refine key rfl h4 (.inl ⟨rfl,?_⟩)
      rcases h2 (l,c) (mem_of_lget hc) with h5 | h5
      · obtain ⟨p,hp,e⟩:=List.mem_map.1 h5
        exact absurd e (h3 p hp)
      · exact h5 c hc
def St.swF {R:Type} (s:St) (k:St → Option R):Option R:=match swW s.dropF.L s.dropF.L with
  | some wl=>k (s.dropF.wr wl (wl.map fun p=>(p.1,none)))
  | none=>none
theorem swF_ok {s:St} {k:St → Option R} (hK:¬ K fkeep) (hG:GOK E) (h:s.swF k = some r) (hs:s.ok):∃ s',Up s s' ∧ s'.ok ∧ k s' = some r ∧ Weak E K (dal s.al) (dlb s.L) (dal s'.al) (dlb s'.L):=by
  unfold St.swF at h
  split at h
  · rename_i wl hw
    refine ⟨_,(dropF_up s).trans (wr_up fun p hp=>.inl (List.mem_map.2 ⟨p,hp,rfl⟩)),wr_ok (dropF_ok hs) fun p hp=>?_,h,(dropF_weak s).trans (swW_weak hw (dropF_noF s) hK hG)⟩
    obtain ⟨c,h1,h2⟩:=(swW_ok hw).1 p hp
    rcases h2 with ⟨rfl,_⟩ | ⟨t,x,rfl,h2⟩
    · exact (dropF_ok hs).2 _ _ h1
    · unfold famQ at h2
      split at h2
      · split at h2
        · simp at h2;rw [← h2];trivial
        · simp at h2
      · simp at h2
  · simp at h
def dFzO:List (Nat × ET) → DAl → DLb → DLb → (DAl → DLb → DLb → Option R) → Option R
  | [],al,L,wl,k=>k al L wl
  | (t,e) :: r,al,L,wl,k=>match lget al t with
    | some (.rw lab sz off n co w)=>if pureAt L lab = true then srcL L e (.rw lab sz off n co w) fun l=>dFzO r ((t,.sl e l) :: al) (lset L lab .gone) (wl ++ [(lab,.gone)]) k else none
    | some _=>dFzO r al L wl k
    | none=>none
def SubA (a b:Al):Prop:=∀ t y,lget a t = some y → lget b t = some y
def SubB (a b:Lb):Prop:=∀ l y,lget a l = some y → lget b l = some y
theorem dFzO_ok:∀ {fz:List (Nat × ET)} {al:DAl} {L wl:DLb} {k:DAl → DLb → DLb → Option R},dFzO fz al L wl k = some r → alOk al → lbOk L → ∃ al' L' w0,k al' L' (wl ++ w0) = some r ∧ alOk al' ∧ lbOk L' ∧ (∀ p ∈ w0,p.2 = .gone ∧ lget L p.1 ≠ none) ∧
    (∀ l,lget L' l ≠ none ↔ lget L l ≠ none) ∧ (∀ l cs,lget L' l = some (.cs cs) → lget L l = some (.cs cs)) ∧
    ∀ A w σ alw Lw a,Rel E A w σ alw Lw a → SubA (dal al) alw → SubB (dlb L) Lw → ∃ alw' σ',Rel E A w σ' alw' (lupd Lw (dlb w0)) a ∧ SubA (dal al') alw' ∧ SubB (dlb L') (lupd Lw (dlb w0)) ∧ Grow top w σ Lw w σ' (lupd Lw (dlb w0))
  | [],al,L,wl,k,h,ha,hl=>⟨al,L,[],by simpa [dFzO] using h,ha,hl,by simp,fun _=>Iff.rfl,fun _ _ h=>h,fun A w σ alw Lw a r h1 h2=>⟨alw,σ,r,h1,h2,Grow.refl _ _ _ _⟩⟩
  | (t,e) :: fz,al,L,wl,k,h,ha,hl=>by
    simp only [dFzO] at h
    split at h
    · rename_i lab sz off n co w ht
      split at h
      · rename_i hp
        obtain ⟨l,cells,hc,h'⟩:=srcL_ok h
        obtain ⟨cc,c1,c2,c3,c4,c5⟩:=hc.rw _ _ _ _ _ _ rfl
        subst c5;subst c3
        have hex:lget L lab ≠ none:=fun e=>by rw [lget_dlb,e] at c1;simp at c1
        obtain ⟨al',L',w0,k1,k2,k3,k4,k5,k6,k7⟩:=dFzO_ok h' (fun u x hx=>by
          simp only [lget] at hx
          split at hx
          · simp at hx;subst hx;trivial
          · exact ha u x hx) (fun u c hc=>by
          rw [lget_lset] at hc
          split at hc
          · simp at hc;subst hc;trivial
          · exact hl u c hc)
        refine ⟨al',L',(lab,.gone) :: w0,by simpa using k1,k2,k3,fun p hp=>?_,fun l'=>?_,fun l' cs hcs=>?_,fun A w σ alw Lw a r h1 h2=>?_⟩
        · rcases List.mem_cons.1 hp with rfl | hp
          · exact ⟨rfl,hex⟩
          · obtain ⟨e1,e2⟩:=k4 p hp
            refine ⟨e1,?_⟩
            rw [lget_lset] at e2
            split at e2
            · rename_i e;rw [← e];exact hex
            · exact e2
        · rw [k5 l',lget_lset]
          split
          · rename_i e;subst e;simp [hex]
          · rfl
        · have:=k6 l' cs hcs
          rw [lget_lset] at this
          split at this
          · simp at this
          · exact this
        · have hw:=Weak.frz (E:=E) (K:=top) (al:=alw) (L:=Lw) (h2 _ _ c1) (off:=off * e.sz) (sz:=e.sz) (n:=l.length) (co:=co) (h1 _ _ (by rw [lget_dal,ht];rfl)) c4 c2 (by
            rw [← c4]
            unfold pureAt at hp
            split at hp
            · rename_i c hcc
              rw [lget_dlb,hcc] at c1
              exact part_pure (dcPure_ok hp (by simpa using c1)) _ _
            · simp at hp) hc.le
          obtain ⟨σ1,r1,g1⟩:=hw A w σ a r
          obtain ⟨alw',σ2,r2,s1,s2,g2⟩:=k7 A w σ1 _ _ a r1 (fun u y hy=>by
            rw [lget_dal] at hy
            simp only [lget] at hy ⊢
            split
            · rename_i e;rw [if_pos e] at hy;simp at hy;rw [← hy];rfl
            · rename_i e;rw [if_neg e] at hy;exact h1 u y (by rw [lget_dal];exact hy)) (fun u y hy=>by
            rw [lget_dlb,lget_lset] at hy
            rw [lget_lset]
            split
            · rename_i e;rw [if_pos e] at hy;simpa [DC.pv] using hy
            · rename_i e;rw [if_neg e] at hy;exact h2 u y (by rw [lget_dlb];exact hy))
          exact ⟨alw',σ2,r2,s1,s2,g1.trans g2⟩
      · simp at h
    · exact dFzO_ok h ha hl
    · simp at h
def dOpF (E:Env) (G:GTab) (C:CT E) (oh:OH) (o:Oper) (al:DAl) (L:DLb) (nl:Nat) (k:DV → DLb → DL → Option R):Option R:=match oh.fz with
  | []=>dOpX E G C oh o al L nl k
  | fz=>dFzO fz al L [] fun al' L' w0=>dOpX E G C oh o al' L' nl fun x wl dl=>k x (w0 ++ wl) (w0.map (fun p=>(p.1,none)) ++ dl)
theorem dOpF_ok {G:GTab} (hG:E.G = gtPV G) (hE:GOK E) {C:CT E} {oh:OH} {o:Oper} {nl:Nat} {ra:DAl} {rl:DLb} {k:DV → DLb → DL → Option R} (hal:alOk ra) (hrl:lbOk rl) (hn:lget rl nl = none) (h:dOpF E G C oh o ra rl nl k = some r):OpS E o ra rl k r:=by
  unfold dOpF at h
  split at h
  · exact dOpX_ok hG hE hal hrl hn h
  · obtain ⟨al',L',w0,k1,k2,k3,k4,k5,k6,k7⟩:=dFzO_ok (E:=E) h hal hrl
    have hn':lget L' nl = none:=by
      cases hc:lget L' nl with
      | none=>rfl
      | some c=>exact absurd hn ((k5 nl).1 (by rw [hc];simp))
    obtain ⟨x,wl,dl,hA,hx,hwl,hd,hk⟩:=dOpX_ok hG hE k2 k3 hn' k1
    refine ⟨x,w0 ++ wl,w0.map (fun p=>(p.1,none)) ++ dl,?_,hx,fun p hp=>?_,fun p hp=>?_,by simpa using hk⟩
    · intro A w σ alw Lw a r h1 h2 h3
      obtain ⟨alw',σ1,r1,s1,s2,g1⟩:=k7 A w σ alw Lw a r h1 h2
      have e1:dlb (w0 ++ wl) = dlb w0 ++ dlb wl:=List.map_append
      refine Oper_wp_mono (hA A w σ1 alw' _ a r1 s1 s2 fun p hp=>?_) ?_ fun _ _ _ h=>h
      · rcases h3 p (by rw [e1];exact List.mem_append_right _ hp) with h4 | h4
        · left
          rw [lget_dlb] at h4 ⊢
          have:lget rl p.1 ≠ none:=fun e=>by rw [e] at h4;simp at h4
          have:=(k5 p.1).2 this
          cases hc:lget L' p.1 with
          | none=>exact absurd hc this
          | some c=>simp
        · right
          rcases lget_lupdG (dlb w0) Lw p.1 with ⟨q,hq,e2,_⟩ | ⟨_,e2⟩
          · exfalso
            obtain ⟨q',hq',rfl⟩:=List.mem_map.1 hq
            have e3:=(k4 q' hq').2
            cases hc:lget rl q'.1 with
            | none=>exact e3 hc
            | some c=>
              have:=h2 q'.1 c.pv (by rw [lget_dlb,hc];rfl)
              simp only at e2
              rw [e2,h4] at this;simp at this
          · rw [e2];exact h4
      · rintro a' w' ⟨σ',c,f1,f2,f3,f4⟩
        have e2:lupd Lw (dlb (w0 ++ wl)) = lupd (lupd Lw (dlb w0)) (dlb wl):=by rw [e1];unfold lupd;rw [List.foldl_append]
        rw [← e2] at f2 f3 f4
        exact ⟨σ',c,f1,f2,f3,g1.trans f4⟩
    · rcases List.mem_append.1 hp with hp | hp
      · rw [(k4 p hp).1];trivial
      · exact hwl p hp
    · rcases List.mem_append.1 hp with hp | hp
      · left;exact List.mem_append_left _ (List.mem_map.2 ⟨p,hp,rfl⟩)
      · rcases hd p hp with h1 | ⟨cs,cs',e1,e2,e3,e4⟩
        · exact .inl (List.mem_append_right _ h1)
        · exact .inr ⟨cs,cs',k6 _ _ e1,e2,e3,fun i hi=>e4 i fun hm=>hi (List.mem_append_right _ hm)⟩
def dwants (ops:Array Oper) (al:DAl) (o:Oper):Option Bool:=
  match o.guard with
  | none=>some true
  | some (j,want)=>match (ops[j]?).bind (·.dst) with
    | some d=>match lget al d with
      | some (.bool b)=>some (b == want)
      | some .dead=>some false
      | _=>none
    | none=>none
theorem dwants_ok {al:DAl} {o:Oper} {b:Bool} (h:dwants ops al o = some b):wants ops (dal al) o = some b:=by
  unfold dwants at h
  unfold wants
  split at h
  · rename_i hg;rw [hg];exact h
  · rename_i j want hg
    rw [hg]
    simp only
    split at h
    · rename_i d hd
      simp only [hd,lget_dal]
      split at h
      · rename_i c hc;rw [hc];exact h
      · rename_i hc;rw [hc];exact h
      · simp at h
    · simp at h
def splitK (sp:Bool) (x:DV) (k:DV → Option R):Option R:=match sp with
  | true=>match x with
    | .bool b=>cond b (k (.bool true)) (k (.bool false))
    | x=>k x
  | false=>k x
theorem splitK_ok {sp:Bool} {x:DV} {k:DV → Option R} (h:splitK sp x k = some r):k x = some r:=by
  unfold splitK at h
  split at h
  · split at h
    · rename_i b;cases b <;> exact h
    · exact h
  · exact h
theorem run_nil_slice {P:Program} {w:World} {T e:TypeId} (hu:P.underlying T = some (.slice e)) (D:Nat) (p:Option Addr) (n c:Nat):(Op.equalIn (D + 1) T (.slice p n c) (.slice none 0 0)).run P w = .ok p.isNone w:=by
  cases p <;> simp [Op.equalIn,run_underlying hu]
theorem AWl_nilq {al:Al} {L:Lb} {d:Option Tmp} {T yt e ty:TypeId} {pos:String} {after:Array Edge} {g:Option (Nat × Bool)} {x y:Operand} {cells:List PV} {m:Nat} {co:Option Nat} (hu:E.P.underlying T = some (.slice e)) (hx:xev E.G al x = some (.ro cells m co)) (hy:xev E.G al y = some .nils)
    (hd:∀ t,d = some t → t < n) (hg:wants ops al ⟨d,.binOp .eql T x y yt,ty,pos,after,g⟩ = some true) (k:∀ b:Bool,(b = true → m = 0) → AWl E K n ops rest Q (oset d (.bool b) al) L) :
    AWl E K n ops (⟨d,.binOp .eql T x y yt,ty,pos,after,g⟩ :: rest) Q al L:=by
  intro A w σ a r t
  have hvx:=xev_ok r (fun _ _ h=>h) hx
  have hvy:=xev_ok r (fun _ _ h=>h) hy
  obtain ⟨b,hb,hrun⟩:∃ b:Bool,(b = true → m = 0) ∧ (execOp a.eval ⟨d,.binOp .eql T x y yt,ty,pos,after,g⟩).run E.P w = .ok (.value (.bool b)) w:=by
    generalize hv:a.eval x = v at *
    generalize hv':a.eval y = v' at *
    cases hvy
    cases hvx with
    | roE p cap hc=>
      refine ⟨p.isNone,fun _=>rfl,?_⟩
      have he:(Op.equal T (.slice p 0 cap) (.slice none 0 0)).run E.P w = .ok p.isNone w:=run_nil_slice hu 9999 p 0 cap
      have h1:=run_eq_of (P:=E.P) (w:=w) (op:=.eql) (.inl rfl) (T:=T) (u:=.slice p 0 cap) (v:=.slice none 0 0) rfl he
      have h2:=run_guard_free (P:=E.P) (w:=w) (op:=.eql) (T:=T) (x:=x) (y:=y) (u:=.slice p 0 cap) (v:=.slice none 0 0) rfl
      simp at h1
      simp [execOp,hv,hv',h1,h2]
    | @ro _ _ _ β add cap cs him hl hv2 hn hc=>
      refine ⟨false,fun h=>by simp at h,?_⟩
      have he:(Op.equal T (.slice (some ⟨β,add,none⟩) m cap) (.slice none 0 0)).run E.P w = .ok false w:=run_nil_slice hu 9999 _ m cap
      have h1:=run_eq_of (P:=E.P) (w:=w) (op:=.eql) (.inl rfl) (T:=T) (u:=.slice (some ⟨β,add,none⟩) m cap) (v:=.slice none 0 0) rfl he
      have h2:=run_guard_free (P:=E.P) (w:=w) (op:=.eql) (T:=T) (x:=x) (y:=y) (u:=.slice (some ⟨β,add,none⟩) m cap) (v:=.slice none 0 0) rfl
      simp at h1
      simp [execOp,hv,hv',h1,h2]
  have hop:Oper.wp E.P ⟨d,.binOp .eql T x y yt,ty,pos,after,g⟩ a w (OpPost A w σ L a d (.bool b) []) (fun _ _ _=>False):=by
    unfold Oper.wp
    rw [hrun]
    exact ⟨σ,.bool b,rfl,.bool b,r.blocks,Grow.refl _ _ _ _⟩
  simp only [wpListIn]
  rw [if_pos (wants_ok r hg)]
  refine Oper_wpIn_mono (Oper_wpIn (not_defer hop ?_) hop) ?_ fun _ _ _ h=>h.elim
  · rintro a' w' ⟨σ',c,rfl,_⟩;exact put_defers _ _ _
  rintro a' w' ⟨σ',c,rfl,hv,hb',hgr⟩
  have r':=(r.grow hb' hgr).put (d:=d) (fun u hu=>by rw [t];exact hd u hu) hv
  refine wpListIn_mono ?_ _ _ _ (k b hb A w' σ' _ r' (by rw [size_put];exact t))
  exact fun e a w h=>Post.trans (hgr.weaken fun _ _=>trivial) h
/-- Both ways lead to the same. -/
noncomputable def agree (a b:Option R):Option R:=open Classical in if a = b then a else none
@[simp] theorem agree_self (a:Option R):agree a a = a:=by simp [agree]
theorem agree_ok {a b:Option R} (h:agree a b = some r):a = some r ∧ b = some r:=by
  unfold agree at h
  split at h
  · rename_i e;exact ⟨h,e ▸ h⟩
  · simp at h
def dNilq (P:Program) (G:GTab) (al:DAl) (o:Oper):Option Bool:=match o.op with
  | .binOp .eql T x y _=>match P.underlying T with
    | some (.slice _)=>match dev G al x with
      | some (.sl _ l)=>match dev G al y with
        | some .nils=>some l.isEmpty
        | _=>none
      | _=>none
    | _=>none
  | _=>none
abbrev OHs:=List (Nat × OH)
def ohOf (hs:OHs) (i:Nat):OH:=match lget hs i with
  | some h=>h
  | none=>{}
noncomputable def dOps (E:Env) (G:GTab) (C:CT E) (n:Nat) (kf:Bool) (hs:OHs) (ops:Array Oper) {R:Type}:List Oper → Nat → St → (St → Option R) → Option R
  | [],_,s,k=>k s
  | o :: rest,i,s,k=>match dwants ops s.al o with
    | some true=>match (ohOf hs i).nq with
     | true=>match dNilq E.P G s.al o with
      | some e=>if dstOK n o.dst = true then cond e (agree (dOps E G C n kf hs ops rest (i + 1) (s.set o.dst (.bool true)) k) (dOps E G C n kf hs ops rest (i + 1) (s.set o.dst (.bool false)) k)) (dOps E G C n kf hs ops rest (i + 1) (s.set o.dst (.bool false)) k) else none
      | none=>none
     | false=>match (ohOf hs i).yi with
      | some j=>match C.y j with
       | some con=>if dstOK n o.dst = true then dYld G con o s.al s.L (frOf s.L) fun wl dl=>dOps E G C n kf hs ops rest (i + 1) ((s.wr wl dl).set o.dst (.bool true)) k else none
       | none=>none
      | none=>match (ohOf hs i).wk with
      | false=>dFz (ohOf hs i).fz s fun s=>match dwants ops s.al o with
       | some true=>if dstOK n o.dst = true then dOpX E G C (ohOf hs i) o s.al s.L (frOf s.L) fun x wl dl=>splitK (ohOf hs i).split x fun x=>dOps E G C n kf hs ops rest (i + 1) ((s.wr wl dl).set o.dst x) k else none
       | _=>none
      | true=>match dwants ops s.dropF.al o with
       | some true=>match (ohOf hs i).io with
        | some j=>if dstOK n o.dst = true ∧ kf = true then dCallO true G (C.i j) o s.dropF.al s.dropF.L (frOf s.dropF.L) fun x wl dl=>dOps E G C n kf hs ops rest (i + 1) ((s.dropF.wr wl dl).set o.dst x) k else none
        | none=>none
       | _=>none
    | some false=>if dstOK n o.dst = true then dOps E G C n kf hs ops rest (i + 1) (s.set o.dst .dead) k else none
    | none=>none
theorem dOps_ok {G:GTab} {C:CT E} {hs:OHs} {kf:Bool} (hkf:kf = true → ¬ K fkeep) (hG:E.G = gtPV G) (hE:GOK E):∀ {rest:List Oper} {i:Nat} {s:St} {k:St → Option R},dOps E G C n kf hs ops rest i s k = some r → s.ok →
    (∀ s',Up s s' → s'.ok → k s' = some r → Q .normal (dal s'.al) (dlb s'.L)) → AWl E K n ops rest Q (dal s.al) (dlb s.L)
  | [],i,s,k,h,ho,hq=>AWl_nil (hq s (.refl s) ho h)
  | o :: rest,i,s,k,h,ho,hq=>by
    simp only [dOps] at h
    split at h
    · rename_i hw
      split at h
      · split at h
        rotate_left
        · simp at h
        rename_i e he
        split at h
        rotate_left
        · simp at h
        rename_i hdst
        have go:∀ b,dOps E G C n kf hs ops rest (i + 1) (s.set o.dst (.bool b)) k = some r → AWl E K n ops rest Q (oset o.dst (.bool b) (dal s.al)) (dlb s.L):=by
          intro b hb
          have ih:=dOps_ok hkf hG hE hb (set_ok ho (d:=o.dst) (x:=.bool b) trivial) fun s' u' o' k'=>hq s' ((set_up _ _ _).trans u') o' k'
          rw [dal_set,dlb_set] at ih
          exact ih
        obtain ⟨dst,op,ty,pos,after,g⟩:=o
        unfold dNilq at he
        simp only at he
        split at he
        · rename_i T x y yt
          split at he
          · rename_i eT hu
            split at he
            · rename_i tt l hx
              split at he
              · rename_i hy
                simp at he;subst he
                have hx':=(dev_ok ho.1 hx).1
                have hy':=(dev_ok ho.1 hy).1
                rw [← hG] at hx' hy'
                refine AWl_nilq hu hx' hy' (dstOK_ok hdst) (dwants_ok hw) fun b hb=>?_
                cases hl:l.isEmpty with
                | true=>
                  rw [hl] at h
                  obtain ⟨h1,h2⟩:=agree_ok h
                  cases b with
                  | true=>exact go true h1
                  | false=>exact go false h2
                | false=>
                  rw [hl] at h
                  cases b with
                  | true=>
                    have:l.length = 0:=hb rfl
                    have:l = []:=List.eq_nil_of_length_eq_zero this
                    subst this;simp at hl
                  | false=>exact go false h
              · simp at he
            · simp at he
          · simp at he
        · simp at he
      split at h
      · -- a round of a range over a function
        split at h
        rotate_left
        · simp at h
        rename_i con _
        split at h
        rotate_left
        · simp at h
        rename_i hdst
        obtain ⟨wl,dl,hwl,hd,h,hA⟩:=dYld_ok (K:=K) (n:=n) (Q:=Q) (ops:=ops) (rest:=rest) hG hE ho h (dstOK_ok hdst) (dwants_ok hw)
        have u2:Up s ((s.wr wl dl).set o.dst (.bool true)):=(wr_up hd).trans (set_up _ _ _)
        have o2:((s.wr wl dl).set o.dst (.bool true)).ok:=set_ok (wr_ok ho hwl) (x:=.bool true) trivial
        have ih:=dOps_ok hkf hG hE h o2 fun s' u' o' k'=>hq s' (u2.trans u') o' k'
        rw [dal_set,dlb_set] at ih
        refine hA ?_
        rw [lupd_dlb];exact ih
      split at h
      rotate_left
      · -- families' blocks may be written
        split at h
        rotate_left
        · simp at h
        rename_i hw1
        have hw1:=dwants_ok hw1
        split at h
        rotate_left
        · simp at h
        split at h
        rotate_left
        · simp at h
        rename_i hc
        obtain ⟨hdst,hkf'⟩:=hc
        have hKf:=hkf hkf'
        have o1:s.dropF.ok:=dropF_ok ho
        obtain ⟨x,wl,dl,hA,hx,hwl,hd,h⟩:=dCallO_ok (wk:=true) hG hE o1.1 o1.2 h
        have u2:Up s.dropF ((s.dropF.wr wl dl).set o.dst x):=(wr_up hd).trans (set_up _ _ _)
        have o2:((s.dropF.wr wl dl).set o.dst x).ok:=set_ok (wr_ok o1 hwl) hx
        have ih:=dOps_ok hkf hG hE h o2 fun s' u' o' k'=>hq s' ((dropF_up s).trans (u2.trans u')) o' k'
        rw [dal_set,dlb_set] at ih
        refine AWl_weak (dropF_weak s) (AWl_opW hA hE (dropF_noF s) hKf (fun l cells h1 h2=>by rw [h1] at h2;simp at h2) (dstOK_ok hdst) (fun _ _ h=>h) (fun _ _ h=>h) (fun p _=>?_) hw1 ?_)
        · cases h:lget (dlb s.dropF.L) p.1 with
          | none=>exact .inr rfl
          | some y=>exact .inl (by simp)
        · rw [lupd_dlb];exact ih
      obtain ⟨s1,u1,o1,h,w1⟩:=dFz_ok (E:=E) (K:=K) h ho
      split at h
      rotate_left
      · simp at h
      rename_i hw1
      have hw1:=dwants_ok hw1
      split at h
      rotate_left
      · simp at h
      rename_i hdst
      obtain ⟨x,wl,dl,hA,hx,hwl,hd,h⟩:=dOpX_ok hG hE o1.1 o1.2 (frOf_ok (Nat.le_refl _)) h
      have h:=splitK_ok h
      have u2:Up s1 ((s1.wr wl dl).set o.dst x):=(wr_up hd).trans (set_up _ _ _)
      have o2:((s1.wr wl dl).set o.dst x).ok:=set_ok (wr_ok o1 hwl) hx
      have ih:=dOps_ok hkf hG hE h o2 fun s' u' o' k'=>hq s' (u1.trans (u2.trans u')) o' k'
      rw [dal_set,dlb_set] at ih
      refine AWl_weak w1 (AWl_op hA (dstOK_ok hdst) (fun _ _ h=>h) (fun _ _ h=>h) (fun p _=>?_) hw1 ?_)
      · cases h:lget (dlb s1.L) p.1 with
        | none=>exact .inr rfl
        | some y=>exact .inl (by simp)
      · rw [lupd_dlb];exact ih
    · rename_i hw
      split at h
      · rename_i hdst
        have ih:=dOps_ok hkf hG hE h (set_ok ho (d:=o.dst) (x:=.dead) trivial) fun s' u' o' k'=>hq s' ((set_up _ _ _).trans u') o' k'
        rw [dal_set,dlb_set] at ih
        exact AWl_skip (dwants_ok hw) (dstOK_ok hdst) ih
      · simp at h
    · simp at h
end
end Go.SH
namespace Go.SH
theorem bitB_ok (m i:Nat):bitB m i = m.testBit i:=by
  unfold bitB
  rw [beq_dec,Nat.testBit_eq_decide_div_mod_eq]
  congr 1
  show ((m >>> i) % 2 = 1) = _
  rw [Nat.shiftRight_eq_div_pow]
theorem maskOf_bit (acc:List Nat):∀ (es:List Nat) (i:Nat),(maskOf acc es).testBit i = true → i ∈ es ∨ ∃ k ∈ es,(acc.getD k 0).testBit i = true
  | [],i,h=>by simp [maskOf] at h
  | k :: r,i,h=>by
    have e:maskOf acc (k :: r) = ((1 <<< k) ||| (acc.getD k 0)) ||| maskOf acc r:=rfl
    rw [e,Nat.testBit_or,Nat.testBit_or,Bool.or_eq_true,Bool.or_eq_true] at h
    rcases h with (h | h) | h
    · left
      rw [Nat.one_shiftLeft,Nat.testBit_two_pow] at h
      simp at h
      subst h;simp
    · exact .inr ⟨k,by simp,h⟩
    · rcases maskOf_bit acc r i h with h | ⟨q,hq,h⟩
      · exact .inl (by simp [h])
      · exact .inr ⟨q,by simp [hq],h⟩
theorem masks_old:∀ (os:List Oper) (acc:List Nat) (j:Nat),j < acc.length → (masks os acc)[j]? = acc[j]?
  | [],acc,j,_=>rfl
  | o :: r,acc,j,h=>by
    rw [masks,masks_old r _ j (by simp;omega),List.getElem?_append_left h]
theorem masks_at:∀ (os:List Oper) (acc:List Nat) (j:Nat) (o:Oper),os[j]? = some o → ∃ acc',acc'.length = acc.length + j ∧ (∀ i,i < acc'.length → acc'[i]? = (masks os acc)[i]?) ∧ (masks os acc)[acc.length + j]? = some (maskOf acc' (edgesOf o))
  | [],acc,j,o,h=>by simp at h
  | o' :: r,acc,0,o,h=>by
    simp at h;subst h
    refine ⟨acc,by simp,fun i hi=>by rw [masks,masks_old r _ i (by simp;omega),List.getElem?_append_left hi],?_⟩
    rw [masks,masks_old r _ _ (by simp),List.getElem?_append_right (by omega)];simp
  | o' :: r,acc,j + 1,o,h=>by
    simp at h
    obtain ⟨acc',h1,h2,h3⟩:=masks_at r (acc ++ [maskOf acc (edgesOf o')]) j o h
    refine ⟨acc',by rw [h1];simp;omega,fun i hi=>by rw [h2 i hi];rfl,?_⟩
    have e:acc.length + (j + 1) = (acc ++ [maskOf acc (edgesOf o')]).length + j:=by simp;omega
    rw [e];exact h3
theorem masks_befs {ops:Array Oper}:∀ (m j i:Nat),j < m → j < ops.size → ((masks ops.toList []).getD j 0).testBit i = true → i ∈ befs ops m j
  | 0,j,i,h,_,_=>by omega
  | m + 1,j,i,h,hj,hb=>by
    have ho:ops.toList[j]? = some ops[j]:=by simp [hj]
    obtain ⟨acc',h1,h2,h3⟩:=masks_at ops.toList [] j _ ho
    simp only [List.length_nil,Nat.zero_add] at h1 h3
    rw [List.getD_eq_getElem?_getD,h3,Option.getD_some] at hb
    unfold befs
    have ho2:ops[j]? = some ops[j]:=by simp [hj]
    rw [ho2]
    simp only [List.mem_append,List.mem_flatMap]
    rcases maskOf_bit acc' _ i hb with h' | ⟨k,hk,hb'⟩
    · exact .inl h'
    · right
      have hkl:k < acc'.length:=by
        rcases Nat.lt_or_ge k acc'.length with h | h
        · exact h
        · rw [List.getD_eq_getElem?_getD,List.getElem?_eq_none h] at hb';simp at hb'
      refine ⟨k,hk,masks_befs m k i (by omega) (by omega) ?_⟩
      rw [List.getD_eq_getElem?_getD,← h2 k hkl,← List.getD_eq_getElem?_getD];exact hb'
theorem hasN_ok {l:List Nat} {x:Nat}:hasN l x = true ↔ x ∈ l:=by
  unfold hasN
  rw [List.any_eq_true]
  constructor
  · rintro ⟨y,hy,h⟩;rw [Nat.beq_eq] at h;subst h;exact hy
  · intro h;exact ⟨x,h,by rw [Nat.beq_eq]⟩
theorem meetN_no {a b:List Nat} (h:meetN a b = false) {x:Nat} (ha:x ∈ a) (hb:x ∈ b):False:=by
  have:meetN a b = true:=by unfold meetN;rw [List.any_eq_true];exact ⟨x,ha,hasN_ok.2 hb⟩
  rw [h] at this;simp at this
theorem pairsS_ok (mk:List Nat) (j:Nat) (rj wj:List Nat):∀ (xs:List (List Nat × List Nat)) (s i:Nat) (ri wi:List Nat),pairsS mk j rj wj xs s = true → xs[i]? = some (ri,wi) →
    bitB (mk.getD j 0) (s + i) = true ∨ (meetN wi (rj ++ wj) = false ∧ meetN wj ri = false)
  | [],s,i,ri,wi,_,h=>by simp at h
  | (ri',wi') :: r,s,0,ri,wi,hp,h=>by
    simp at h;obtain ⟨rfl,rfl⟩:=h
    simp only [pairsS,Bool.and_eq_true,Bool.or_eq_true,Bool.not_eq_true',Bool.or_eq_false_iff] at hp
    exact hp.1
  | (ri',wi') :: r,s,i + 1,ri,wi,hp,h=>by
    simp only [pairsS,Bool.and_eq_true] at hp
    have:=pairsS_ok mk j rj wj r (s + 1) i ri wi hp.2 (by simpa using h)
    rwa [show s + 1 + i = s + (i + 1) by omega] at this
theorem allS_ok (mk:List Nat):∀ (xs pre:List (List Nat × List Nat)) (s i j:Nat) (ri wi rj wj:List Nat),allS mk pre xs s = true → pre.length = s → i < s + j → (pre ++ xs)[i]? = some (ri,wi) → xs[j]? = some (rj,wj) →
    bitB (mk.getD (s + j) 0) i = true ∨ (meetN wi (rj ++ wj) = false ∧ meetN wj ri = false)
  | [],pre,s,i,j,ri,wi,rj,wj,_,_,_,_,h=>by simp at h
  | (rj',wj') :: r,pre,s,i,0,ri,wi,rj,wj,ha,hl,hi,h1,h2=>by
    simp at h2;obtain ⟨rfl,rfl⟩:=h2
    simp only [allS,Bool.and_eq_true] at ha
    rw [List.getElem?_append_left (by omega)] at h1
    have:=pairsS_ok mk s rj' wj' pre 0 i ri wi ha.1 h1
    simpa using this
  | (rj',wj') :: r,pre,s,i,j + 1,ri,wi,rj,wj,ha,hl,hi,h1,h2=>by
    simp only [allS,Bool.and_eq_true] at ha
    have:=allS_ok mk r (pre ++ [(rj',wj')]) (s + 1) i j ri wi rj wj ha.2 (by simp;omega) (by omega) (by rw [List.append_assoc];exact h1) (by simpa using h2)
    rwa [show s + 1 + j = s + (j + 1) by omega] at this
end Go.SH
namespace Go.SH
theorem clash_mem {a b:List Lc} (h:clash a b = true):∃ l,l ∈ a ∧ l ∈ b:=by
  simp only [clash,List.any_eq_true] at h
  obtain ⟨x,hx,y,hy,he⟩:=h
  simp at he;subst he
  exact ⟨x,hx,hy⟩
theorem memW {o:Oper} {f:Fp} {x:Lc} (h:x ∈ (fpW o f).map (·.1)):(∃ d,x = .inl d ∧ d ∈ wrS o) ∨ ∃ l,x = .inr l ∧ l ∈ wrL f:=by
  unfold fpW at h
  rw [List.map_append,List.mem_append] at h
  rcases h with h | h
  · left
    unfold wrS
    cases hd:o.dst with
    | none=>rw [hd] at h;simp at h
    | some d=>rw [hd] at h;simp at h;exact ⟨d,h,by simp⟩
  · right
    unfold wrL
    cases hr:f.run with
    | false=>rw [hr] at h;simp at h
    | true=>
      rw [hr] at h
      simp only [if_true,List.map_map,List.mem_map,Function.comp] at h
      obtain ⟨p,hp,rfl⟩:=h
      exact ⟨p.1,rfl,by simp only [if_true];exact List.mem_map_of_mem hp⟩
theorem memR {ops:Array Oper} {o:Oper} {f:Fp} {x:Lc} (hra:∀ p ∈ f.ra,p.1 ∈ slotsOf (opnds o.op)) (h:x ∈ (fpR ops o f).map (·.1)):(∃ d,x = .inl d ∧ d ∈ rdS ops o) ∨ ∃ l,x = .inr l ∧ l ∈ rdL f:=by
  unfold fpR at h
  rw [List.map_append,List.mem_append] at h
  rcases h with h | h
  · left
    unfold rdS
    cases hd:gslot ops o with
    | none=>rw [hd] at h;simp at h
    | some d=>rw [hd] at h;simp at h;exact ⟨d,h,by simp⟩
  · cases hr:f.run with
    | false=>rw [hr] at h;simp at h
    | true=>
      rw [hr] at h
      simp only [if_true,List.map_append,List.map_map,List.mem_append,List.mem_map,Function.comp] at h
      rcases h with (⟨p,hp,rfl⟩ | ⟨p,hp,rfl⟩) | ⟨l,hl,rfl⟩
      · exact .inl ⟨p.1,rfl,by unfold rdS;exact List.mem_append.2 (.inr (hra p hp))⟩
      · exact .inr ⟨p.1,rfl,by unfold rdL;rw [if_pos hr];exact List.mem_append.2 (.inl (List.mem_map_of_mem hp))⟩
      · exact .inr ⟨l,rfl,by unfold rdL;rw [if_pos hr];exact List.mem_append.2 (.inr hl)⟩
theorem indep_of {ops:Array Oper} {fs:List Fp} (hlen:fs.length = ops.size) (hS:indepS ops = true) (hD:pureL fs = true ∨ indepD ops fs = true)
    (hra:∀ (i:Nat) (o:Oper) (f:Fp),ops[i]? = some o → fs[i]? = some f → ∀ p ∈ f.ra,p.1 ∈ slotsOf (opnds o.op)):indep ops fs = true:=by
  unfold indep
  simp only [List.all_eq_true,List.mem_range]
  intro j hj i hi
  have hin:i < ops.size:=by omega
  have h1:ops[i]? = some ops[i]:=by simp [hin]
  have h2:fs[i]? = some fs[i]:=by simp [hlen,hin]
  have h3:ops[j]? = some ops[j]:=by simp [hj]
  have h4:fs[j]? = some fs[j]:=by simp [hlen,hj]
  have ri:=hra i _ _ h1 h2
  have rj:=hra j _ _ h3 h4
  have s1:(ops.toList.map fun o=>(rdS ops o,wrS o))[i]? = some (rdS ops ops[i],wrS ops[i]):=by simp [hin]
  have s2:(ops.toList.map fun o=>(rdS ops o,wrS o))[j]? = some (rdS ops ops[j],wrS ops[j]):=by simp [hj]
  have st:=allS_ok _ _ [] 0 i j _ _ _ _ hS rfl (by omega) (by rw [List.nil_append];exact s1) s2
  rw [Nat.zero_add] at st
  have dy:bitB ((masks ops.toList []).getD j 0) i = true ∨ (meetN (wrL fs[i]) (rdL fs[j] ++ wrL fs[j]) = false ∧ meetN (wrL fs[j]) (rdL fs[i]) = false):=by
    rcases hD with hD | hD
    · right
      have nil:∀ f ∈ fs,wrL f = []:=by
        intro f hf
        have:=List.all_eq_true.1 hD f hf
        unfold wrL
        split
        · split at this
          · rename_i hw;rw [hw];rfl
          · simp at this
        · rfl
      rw [nil _ (List.getElem_mem _),nil _ (List.getElem_mem _)]
      exact ⟨rfl,rfl⟩
    · have d1:(fs.map fun f=>(rdL f,wrL f))[i]? = some (rdL fs[i],wrL fs[i]):=by simp [hlen,hin]
      have d2:(fs.map fun f=>(rdL f,wrL f))[j]? = some (rdL fs[j],wrL fs[j]):=by simp [hlen,hj]
      have:=allS_ok _ _ [] 0 i j _ _ _ _ hD rfl (by omega) (by rw [List.nil_append];exact d1) d2
      rwa [Nat.zero_add] at this
  simp only [List.getD_eq_getElem?_getD,List.getElem?_map,List.getElem?_range hin,List.getElem?_range hj,Option.map_some,Option.getD_some,h1,h2,h3,h4]
  generalize ops[i] = oi at *
  generalize ops[j] = oj at *
  generalize fs[i] = fi at *
  generalize fs[j] = fj at *
  by_cases hb:bitB ((masks ops.toList []).getD j 0) i = true
  · have:=masks_befs ops.size j i hj hj (by rw [← bitB_ok];exact hb)
    simp [List.contains_iff_mem,this]
  · obtain ⟨s3,s4⟩:=st.resolve_left hb
    obtain ⟨d3,d4⟩:=dy.resolve_left hb
    rw [Bool.or_eq_true]
    right
    rw [Bool.not_eq_true',Bool.or_eq_false_iff]
    constructor
    · cases hc:clash ((fpW oi fi).map (·.1)) ((fpR ops oj fj).map (·.1) ++ (fpW oj fj).map (·.1)) with
      | false=>rfl
      | true=>
        exfalso
        obtain ⟨x,hx,hy⟩:=clash_mem hc
        rcases memW hx with ⟨d,rfl,hd⟩ | ⟨l,rfl,hl⟩
        · rcases List.mem_append.1 hy with hy | hy
          · rcases memR rj hy with ⟨d',e,hd'⟩ | ⟨l,e,_⟩
            · simp at e;subst e;exact meetN_no s3 hd (List.mem_append.2 (.inl hd'))
            · simp at e
          · rcases memW hy with ⟨d',e,hd'⟩ | ⟨l,e,_⟩
            · simp at e;subst e;exact meetN_no s3 hd (List.mem_append.2 (.inr hd'))
            · simp at e
        · rcases List.mem_append.1 hy with hy | hy
          · rcases memR rj hy with ⟨d',e,hd'⟩ | ⟨l',e,hl'⟩
            · simp at e
            · simp at e;subst e;exact meetN_no d3 hl (List.mem_append.2 (.inl hl'))
          · rcases memW hy with ⟨d',e,hd'⟩ | ⟨l',e,hl'⟩
            · simp at e
            · simp at e;subst e;exact meetN_no d3 hl (List.mem_append.2 (.inr hl'))
    · cases hc:clash ((fpW oj fj).map (·.1)) ((fpR ops oi fi).map (·.1)) with
      | false=>rfl
      | true=>
        exfalso
        obtain ⟨x,hx,hy⟩:=clash_mem hc
        rcases memW hx with ⟨d,rfl,hd⟩ | ⟨l,rfl,hl⟩
        · rcases memR ri hy with ⟨d',e,hd'⟩ | ⟨l,e,_⟩
          · simp at e;subst e;exact meetN_no s4 hd hd'
          · simp at e
        · rcases memR ri hy with ⟨d',e,hd'⟩ | ⟨l',e,hl'⟩
          · simp at e
          · simp at e;subst e;exact meetN_no d4 hl hl'
theorem textAl_app:∀ (os:List Oper) (fs:List Fp) (o:Oper) (f:Fp) (al:Al),os.length = fs.length → textAl (os ++ [o]) (fs ++ [f]) al = stepAl o f (textAl os fs al)
  | [],[],o,f,al,_=>rfl
  | [],_ :: _,o,f,al,h=>by simp at h
  | _ :: _,[],o,f,al,h=>by simp at h
  | o' :: os,f' :: fs,o,f,al,h=>textAl_app os fs o f _ (by simpa using h)
theorem textL_app:∀ (os:List Oper) (fs:List Fp) (o:Oper) (f:Fp) (L:Lb),os.length = fs.length → textL (os ++ [o]) (fs ++ [f]) L = stepL f (textL os fs L)
  | [],[],o,f,L,_=>rfl
  | [],_ :: _,o,f,L,h=>by simp at h
  | _ :: _,[],o,f,L,h=>by simp at h
  | o' :: os,f' :: fs,o,f,L,h=>textL_app os fs o f _ (by simpa using h)
theorem textVals_app (ops:Array Oper):∀ (os:List Oper) (fs:List Fp) (o:Oper) (f:Fp) (al:Al) (L:Lb),os.length = fs.length →
    textVals ops (os ++ [o]) (fs ++ [f]) al L = textVals ops os fs al L ++ [(fpR ops o f).map fun p=>memOf (textAl os fs al) (textL os fs L) p.1]
  | [],[],o,f,al,L,_=>rfl
  | [],_ :: _,o,f,al,L,h=>by simp at h
  | _ :: _,[],o,f,al,L,h=>by simp at h
  | o' :: os,f' :: fs,o,f,al,L,h=>by
    simp only [List.cons_append,textVals,textAl,textL]
    rw [textVals_app ops os fs o f _ _ (by simpa using h)]
theorem textWant_app (ops:Array Oper):∀ (os:List Oper) (fs:List Fp) (o:Oper) (f:Fp),os.length = fs.length → textWant ops (os ++ [o]) (fs ++ [f]) = textWant ops os fs ++ [(fpR ops o f).map (·.2)]
  | [],[],o,f,_=>rfl
  | [],_ :: _,o,f,h=>by simp at h
  | _ :: _,[],o,f,h=>by simp at h
  | o' :: os,f' :: fs,o,f,h=>by
    simp only [List.cons_append,textWant]
    rw [textWant_app ops os fs o f (by simpa using h)]
/-- So far as_ a statement of open order is run, in the text's order. -/
structure DInv (E:Env) (ops:Array Oper) (pre:List Oper) (fs:List Fp) (al0:Al) (L0:Lb) (al:Al) (L:Lb):Prop where
  len:pre.length = fs.length
  hal:al = textAl pre fs al0
  hL:L = textL pre fs L0
  tv:textVals ops pre fs al0 L0 = textWant ops pre fs
  op:∀ (i:Nat) (o:Oper) (f:Fp),pre[i]? = some o → fs[i]? = some f → f.run = true → AOp E o f.ra f.rl f.x f.wl
  gd:∀ (i:Nat) (o:Oper) (f:Fp),pre[i]? = some o → fs[i]? = some f → (match o.guard with | some _=>(!f.gd || !f.run) | none=>f.run) = true
  ra:∀ (i:Nat) (o:Oper) (f:Fp),pre[i]? = some o → fs[i]? = some f → ∀ p ∈ f.ra,p.1 ∈ slotsOf (opnds o.op)
theorem snoc_get {α:Type} {xs:List α} {x y:α} {i:Nat} (h:(xs ++ [x])[i]? = some y):(i < xs.length ∧ xs[i]? = some y) ∨ (i = xs.length ∧ y = x):=by
  rcases Nat.lt_or_ge i xs.length with hi | hi
  · rw [List.getElem?_append_left hi] at h;exact .inl ⟨hi,h⟩
  · rw [List.getElem?_append_right hi] at h
    cases hk:i - xs.length with
    | zero=>rw [hk] at h;simp at h;exact .inr ⟨by omega,h.symm⟩
    | succ k=>rw [hk] at h;simp at h
theorem DInv.snoc {E:Env} {ops:Array Oper} {pre:List Oper} {fs:List Fp} {al0 al:Al} {L0 L:Lb} (h:DInv E ops pre fs al0 L0 al L) {o:Oper} {f:Fp}
    (hr:∀ p ∈ fpR ops o f,memOf al L p.1 = p.2) (hop:f.run = true → AOp E o f.ra f.rl f.x f.wl) (hgd:(match o.guard with | some _=>(!f.gd || !f.run) | none=>f.run) = true) (hra:∀ p ∈ f.ra,p.1 ∈ slotsOf (opnds o.op)) :
    DInv E ops (pre ++ [o]) (fs ++ [f]) al0 L0 (stepAl o f al) (stepL f L):=by
  refine ⟨by simp [h.len],by rw [textAl_app _ _ _ _ _ h.len,h.hal],by rw [textL_app _ _ _ _ _ h.len,h.hL],?_,?_,?_,?_⟩
  · rw [textVals_app _ _ _ _ _ _ _ h.len,textWant_app _ _ _ _ _ h.len,h.tv,← h.hal,← h.hL]
    congr 2
    exact List.map_congr_left hr
  · intro i o' f' h1 h2 h3
    rcases snoc_get h1 with ⟨a,b⟩ | ⟨a,rfl⟩ <;> rcases snoc_get h2 with ⟨c,d⟩ | ⟨c,rfl⟩
    · exact h.op i _ _ b d h3
    · have:=h.len;omega
    · have:=h.len;omega
    · exact hop h3
  · intro i o' f' h1 h2
    rcases snoc_get h1 with ⟨a,b⟩ | ⟨a,rfl⟩ <;> rcases snoc_get h2 with ⟨c,d⟩ | ⟨c,rfl⟩
    · exact h.gd i _ _ b d
    · have:=h.len;omega
    · have:=h.len;omega
    · exact hgd
  · intro i o' f' h1 h2
    rcases snoc_get h1 with ⟨a,b⟩ | ⟨a,rfl⟩ <;> rcases snoc_get h2 with ⟨c,d⟩ | ⟨c,rfl⟩
    · exact h.ra i _ _ b d
    · have:=h.len;omega
    · have:=h.len;omega
    · exact hra
end Go.SH
namespace Go.SH
theorem Weak.subG {E:Env} {K:Nat → Prop} {al al':Al} {L:Lb} (hs:∀ t x,lget al' t = some x → lget al t = some x):Weak E K al L al' L:=fun _ w σ _ r=>
  ⟨σ,⟨fun t x hx=>r.tmps t x (hs t x hx),r.blocks,r.globals,r.nodefer⟩,Grow.refl _ _ _ _⟩
theorem draw_end {E:Env} (hm:E.P.follows .mixedOrders = true) {n id:Nat} {ops:Array Oper} {fs:List Fp} {al0 al:Al} {L0 L:Lb} {K:Nat → Prop} (h:DInv E ops ops.toList fs al0 L0 al L) (he:edgesOK ops = true) (hS:indepS ops = true) (hd:drawS n ops = true)
    (hp:pureL fs = true ∨ (nodupAll fs = true ∧ indepD ops fs = true)):AW E K n (.region id ops true) (fun e1 al1 L1=>e1 = .normal ∧ al1 = al ∧ L1 = L) al0 L0:=by
  have hlen:fs.length = ops.size:=by have:=h.len;simp at this;omega
  have g1:∀ (i:Nat) (o:Oper),ops[i]? = some o → ops.toList[i]? = some o:=fun i o h=>by simpa using h
  have hst:∀ (i:Nat) (o:Oper),ops[i]? = some o → (dstOK n o.dst && (match o.guard with | some _=>(gslot ops o).isSome | none=>true)) = true:=fun i o ho=>
    List.all_eq_true.1 ((Bool.and_eq_true _ _).mp hd).1 o (List.mem_of_getElem? (g1 i o ho))
  refine AW_post (AW_draw (Q:=fun e al1 L1=>e = .normal ∧ (∀ t,lget al1 t = lget al t) ∧ ∀ l,lget L1 l = lget L l) hm fs hlen (fun i o f ho hf hr=>h.op i o f (g1 i o ho) hf hr) (fun i o f ho hf=>⟨?_,?_,?_⟩) he
    (indep_of hlen hS (hp.imp (fun h=>h) (·.2)) fun i o f ho hf=>h.ra i o f (g1 i o ho) hf) h.tv (fun al1 L1 e1 e2=>⟨rfl,fun t=>by rw [e1,← h.hal],fun l=>by rw [e2,← h.hL]⟩) (fun i o ho=>List.all_eq_true.1 ((Bool.and_eq_true _ _).mp hd).2 o (List.mem_of_getElem? (g1 i o ho))) (fun _ _ h=>by simp at h)) ?_
  · have h1:=h.gd i o f (g1 i o ho) hf
    have h2:=hst i o ho
    unfold guardOK
    cases hg:o.guard with
    | none=>rw [hg] at h1;exact h1
    | some q=>rw [hg] at h1 h2;simp only [Bool.and_eq_true] at h2 ⊢;exact ⟨h2.2,h1⟩
  · rcases hp with hp | hp
    · have:=List.all_eq_true.1 hp f (List.mem_of_getElem? hf)
      split at this
      · rename_i hw;rw [hw];rfl
      · simp at this
    · exact List.all_eq_true.1 hp.1 f (List.mem_of_getElem? hf)
  · intro t ht
    have h2:=hst i o ho
    simp only [Bool.and_eq_true] at h2
    exact dstOK_ok h2.1 t ht
  · rintro e al1 L1 ⟨rfl,e1,e2⟩
    exact ⟨al,L,(Weak.subG fun t x hx=>by rw [e1];exact hx).trans (Weak.eqL fun l=>(e2 l).symm),rfl,rfl,rfl⟩
def TrB (m:Tr) (nx:Nat):Prop:=∀ l,tget m l ≠ none → l < nx
structure StOK (m:Tr) (nx lo:Nat) (m':Tr) (nx':Nat):Prop where
  le:nx ≤ nx'
  mx:nx' ≤ maxL
  trb:TrB m' nx'
  low:∀ l,l < lo → tget m' l = tget m l
  dom:∀ l,l < nx → tget m l = none → tget m' l = none
theorem wants_gval {ops:Array Oper} {al:Al} {o:Oper} {run:Bool} (h:wants ops al o = some run):(∀ d,gslot ops o = some d → lget al d = some (gval o run (gdOf ops al o))) ∧ (run = true → gdOf ops al o = false) ∧ (o.guard = none → run = true):=by
  unfold wants at h
  unfold gslot gval gdOf
  cases hg:o.guard with
  | none=>rw [hg] at h;simp at h;simp [h]
  | some q=>
    obtain ⟨j,want⟩:=q
    rw [hg] at h
    simp only at h ⊢
    have hh:(ops[j]?).bind (·.dst) = none ∨ ∃ d,(ops[j]?).bind (·.dst) = some d:=by cases (ops[j]?).bind (·.dst) <;> simp
    rcases hh with hd | ⟨d,hd⟩
    · simp [hd] at h
    · have hx':lget al d = none ∨ ∃ x,lget al d = some x:=by cases lget al d <;> simp
      rcases hx' with hx | ⟨x,hx⟩
      · simp [hd,hx] at h
      · simp only [hd,hx] at h ⊢
        cases x <;> simp at h
        · subst h
          refine ⟨fun d' hd'=>?_,by simp,by simp⟩
          simp at hd';subst hd'
          rw [hx];simp
        · rename_i b
          subst h
          refine ⟨fun d' hd'=>?_,by simp,by simp⟩
          simp at hd';subst hd'
          rw [hx];cases b <;> cases want <;> rfl
/-- What is looked at is as_ it is told. -/
theorem fpR_ok {ops:Array Oper} {al:Al} {L:Lb} {o:Oper} {f:Fp} (hw:wants ops al o = some f.run) (hgd:f.gd = gdOf ops al o) (hra:∀ p ∈ f.ra,lget al p.1 = some p.2) (hrl:∀ p ∈ f.rl,lget L p.1 = some p.2)
    (hnew:∀ l ∈ fnew f,lget L l = none):∀ p ∈ fpR ops o f,memOf al L p.1 = p.2:=by
  intro p hp
  unfold fpR at hp
  rw [List.mem_append] at hp
  rcases hp with hp | hp
  · cases hd:gslot ops o with
    | none=>rw [hd] at hp;simp at hp
    | some d=>
      rw [hd] at hp
      simp at hp;subst hp
      simp only [memOf]
      rw [(wants_gval hw).1 d hd,hgd]
  · split at hp
    · rw [List.mem_append,List.mem_append] at hp
      rcases hp with (hp | hp) | hp
      · simp only [List.mem_map] at hp
        obtain ⟨q,hq,rfl⟩:=hp
        simp only [memOf];rw [hra q hq]
      · simp only [List.mem_map] at hp
        obtain ⟨q,hq,rfl⟩:=hp
        simp only [memOf];rw [hrl q hq]
      · simp only [List.mem_map] at hp
        obtain ⟨l,hl,rfl⟩:=hp
        simp only [memOf];rw [hnew l hl]
    · simp at hp
end Go.SH
namespace Go.SH
variable [SentA]
mutual
/-- The names in a value. -/
def DV.names:DV → List Nat
  | .ptr l _=>[l]
  | .lp l _ _ _=>[l]
  | .rw l _ _ _ _ _=>[l]
  | .fn _ cs=>DV.namesL cs
  | .iface _ v=>v.names
  | .agg cs=>DV.namesL cs
  | .tup cs=>DV.namesL cs
  | _=>[]
def DV.namesL:List DV → List Nat
  | []=>[]
  | d :: r=>d.names ++ DV.namesL r
end
def draOf (al:DAl):List Nat → DAl
  | []=>[]
  | t :: r=>match lget al t with | some x=>(t,x) :: draOf al r | none=>draOf al r
def drlOf (L:DLb):List Nat → DLb
  | []=>[]
  | l :: r=>match lget L l with | some c=>(l,c) :: drlOf L r | none=>drlOf L r
theorem draOf_mem {al:DAl}:∀ {ts:List Nat} {p:Nat × DV},p ∈ draOf al ts → lget al p.1 = some p.2 ∧ p.1 ∈ ts
  | [],p,h=>by simp [draOf] at h
  | t :: r,p,h=>by
    simp only [draOf] at h
    split at h
    · rename_i x hx
      rcases List.mem_cons.1 h with rfl | h
      · exact ⟨hx,by simp⟩
      · obtain ⟨h1,h2⟩:=draOf_mem h;exact ⟨h1,List.mem_cons_of_mem _ h2⟩
    · obtain ⟨h1,h2⟩:=draOf_mem h;exact ⟨h1,List.mem_cons_of_mem _ h2⟩
theorem drlOf_mem {L:DLb}:∀ {ts:List Nat} {p:Nat × DC},p ∈ drlOf L ts → lget L p.1 = some p.2
  | [],p,h=>by simp [drlOf] at h
  | t :: r,p,h=>by
    simp only [drlOf] at h
    split at h
    · rename_i x hx
      rcases List.mem_cons.1 h with rfl | h
      · exact hx
      · exact drlOf_mem h
    · exact drlOf_mem h
/-- Does an operation look at blocks? -/
def looks:Op → Bool
  | .move _=>false
  | .assign _=>false
  | .pick _ _ _=>false
  | .binOp _ _ _ _ _=>false
  | .unOp _ _ _=>false
  | .fieldAddr _ _ _=>false
  | .field _ _ _=>false
  | .extract _ _=>false
  | .makeFunc _ _ _=>false
  | .makeInterface _ _=>false
  | .nilCheck _=>false
  | .build _ _=>false
  | .box _ _=>false
  | .buildSlice _ _ _=>false
  | _=>true
/-- Names, and those that stand in their blocks. -/
def deep (L:DLb) (op:Op) (ns:List Nat):List Nat:=match op with
  | .call ⟨.value _,_,_⟩=>flab :: fkeep :: (ns ++ ns.flatMap fun l=>match lget L l with
    | some (.cs ds)=>DV.namesL ds
    | _=>[])
  | _=>ns
def rlFor (op:Op) (ra:DAl) (L:DLb):DLb:=match looks op with
  | true=>drlOf L (deep L op (ra.flatMap fun p=>p.2.names))
  | false=>[]
theorem rlFor_mem {op:Op} {ra:DAl} {L:DLb} {p:Nat × DC} (h:p ∈ rlFor op ra L):lget L p.1 = some p.2:=by
  unfold rlFor at h
  split at h
  · exact drlOf_mem h
  · simp at h
theorem fnew_memD {f:Fp} {l:Nat} (h:l ∈ fnew f):lget f.rl l = none ∧ ∃ p ∈ f.wl,p.1 = l:=by
  unfold fnew at h
  simp only [List.mem_map,List.mem_filter] at h
  obtain ⟨p,⟨h1,h2⟩,rfl⟩:=h
  exact ⟨by simpa using h2,p,h1,rfl⟩
section
variable {E:Env} {K:Nat → Prop} {n:Nat} {Q:Exit → Al → Lb → Prop} {ops:Array Oper} {rest:List Oper} {R:Type} {r:R}
def dDraw (E:Env) (G:GTab) (C:CT E) (n:Nat) (hs:OHs) (ops:Array Oper) {R:Type}:List Oper → Nat → List Fp → St → (St → Option R) → Option R
  | [],_,fs,s,k=>if (edgesOK ops && (indepS ops && drawS n ops) && (pureL fs || (nodupAll fs && indepD ops fs.reverse))) = true then k s else none
  | o :: rest,i,fs,s,k=>match dwants ops s.al o with
    | some true=>let ra:=draOf s.al (slotsOf (opnds o.op))
      let rl:=rlFor o.op ra s.L
      dOpF E G C (ohOf hs i) o ra rl (frOf s.L) fun x wl dl=>
        if (wl.all fun p=>(rl.map (·.1)).elem p.1 || Nat.ble (frOf s.L) p.1) = true then splitK (ohOf hs i).split x fun x=>
          dDraw E G C n hs ops rest (i + 1) (⟨dal ra,dlb rl,x.pv,dlb wl,true,false⟩ :: fs) ((s.wr wl dl).set o.dst x) k else none
    | some false=>dDraw E G C n hs ops rest (i + 1) (⟨[],[],.dead,[],false,gdOf ops (dal s.al) o⟩ :: fs) (s.set o.dst .dead) k
    | none=>none
theorem dDraw_ok {G:GTab} {C:CT E} {hs:OHs} {id:Nat} (hm:E.P.follows .mixedOrders = true) (hG:E.G = gtPV G) (hE:GOK E) {al0:Al} {L0:Lb} :
    ∀ {rest pre:List Oper} {i:Nat} {fs:List Fp} {s:St} {k:St → Option R},ops.toList = pre ++ rest → DInv E ops pre fs.reverse al0 L0 (dal s.al) (dlb s.L) → dDraw E G C n hs ops rest i fs s k = some r → s.ok →
    (∀ s',Up s s' → s'.ok → k s' = some r → Q .normal (dal s'.al) (dlb s'.L)) → AW E K n (.region id ops true) Q al0 L0
  | [],pre,i,fs,s,k,hpre,hD,h,ho,hq=>by
    simp only [dDraw] at h
    split at h
    · rename_i hc
      simp only [Bool.and_eq_true] at hc
      obtain ⟨⟨h1,h2,h3⟩,h4⟩:=hc
      rw [List.append_nil] at hpre
      subst hpre
      refine (draw_end hm hD h1 h2 h3 ?_).mono fun e1 al1 L1 ⟨a,b,c⟩=>by subst a;subst b;subst c;exact hq s (.refl s) ho h
      simp only [Bool.or_eq_true,Bool.and_eq_true] at h4
      rcases h4 with hp | ⟨hp,hq⟩
      · left;unfold pureL at hp ⊢;rw [List.all_reverse];exact hp
      · right;exact ⟨by unfold nodupAll at hp ⊢;rw [List.all_reverse];exact hp,hq⟩
    · simp at h
  | o :: rest,pre,i,fs,s,k,hpre,hD,h,ho,hq=>by
    simp only [dDraw] at h
    split at h
    · rename_i hw
      have hw:=dwants_ok hw
      have hra:alOk (draOf s.al (slotsOf (opnds o.op))):=fun t x hx=>ho.1 t x (draOf_mem (mem_of_lget hx)).1
      have hrlm:∀ l c,lget (rlFor o.op (draOf s.al (slotsOf (opnds o.op))) s.L) l = some c → lget s.L l = some c:=fun l c hl=>rlFor_mem (mem_of_lget hl)
      have hn:lget (rlFor o.op (draOf s.al (slotsOf (opnds o.op))) s.L) (frOf s.L) = none:=by
        cases hc:lget (rlFor o.op (draOf s.al (slotsOf (opnds o.op))) s.L) (frOf s.L) with
        | none=>rfl
        | some c=>have:=hrlm _ _ hc;rw [frOf_ok (Nat.le_refl _)] at this;simp at this
      obtain ⟨x,wl,dl,hA,hx,hwl,hd,h⟩:=dOpF_ok hG hE hra (fun l c hl=>ho.2 l c (hrlm l c hl)) hn h
      simp only at h
      split at h
      · rename_i hwc
        have h:=splitK_ok h
        have hd':DirtyOK s.L wl dl:=fun p hp=>(hd p hp).imp (fun h=>h) fun ⟨cs,cs',e1,e2⟩=>⟨cs,cs',hrlm _ _ e1,e2⟩
        have u2:Up s ((s.wr wl dl).set o.dst x):=(wr_up hd').trans (set_up _ _ _)
        have o2:((s.wr wl dl).set o.dst x).ok:=set_ok (wr_ok ho hwl) hx
        have hgd:gdOf ops (dal s.al) o = false:=(wants_gval hw).2.1 rfl
        have hD':=hD.snoc (o:=o) (f:=⟨dal (draOf s.al (slotsOf (opnds o.op))),dlb (rlFor o.op (draOf s.al (slotsOf (opnds o.op))) s.L),x.pv,dlb wl,true,false⟩)
          (fpR_ok hw hgd.symm (fun p hp=>by
              obtain ⟨q,hq,rfl⟩:=List.mem_map.1 hp
              rw [lget_dal,(draOf_mem hq).1];rfl)
            (fun p hp=>by
              obtain ⟨q,hq,rfl⟩:=List.mem_map.1 hp
              rw [lget_dlb,rlFor_mem hq];rfl) fun l hl=>by
            obtain ⟨e1,p,hp,rfl⟩:=fnew_memD hl
            obtain ⟨q,hq,rfl⟩:=List.mem_map.1 hp
            have:=List.all_eq_true.1 hwc q hq
            simp only [Bool.or_eq_true] at this
            rcases this with this | this
            · have e2:=hasL_dlb this
              simp only [hasL] at e2
              simp only at e1
              rw [e1] at e2;simp at e2
            · have:=Nat.le_of_ble_eq_true this
              simp only;rw [lget_dlb,frOf_ok this];rfl)
          (fun _=>hA) (by cases hg:o.guard <;> rfl) fun p hp=>by
            obtain ⟨q,hq,rfl⟩:=List.mem_map.1 hp
            exact (draOf_mem hq).2
        refine dDraw_ok hm hG hE (pre:=pre ++ [o]) (by rw [hpre];simp) ?_ h o2 fun s' u' o' k'=>hq s' (u2.trans u') o' k'
        rw [List.reverse_cons,dal_set,dlb_set,show (s.wr wl dl).L = lupd s.L wl from rfl,← lupd_dlb]
        exact hD'
      · simp at h
    · rename_i hw
      have hw:=dwants_ok hw
      have hg:o.guard ≠ none:=fun h=>by have:=(wants_gval hw).2.2 h;simp at this
      have hD':=hD.snoc (o:=o) (f:=⟨[],[],.dead,[],false,gdOf ops (dal s.al) o⟩)
        (fpR_ok hw rfl (fun p hp=>by simp at hp) (fun p hp=>by simp at hp) fun l hl=>by obtain ⟨_,p,hp,_⟩:=fnew_memD hl;simp at hp)
        (fun h=>by simp at h) (by cases hgg:o.guard with | none=>exact absurd hgg hg | some q=>simp) fun p hp=>by simp at hp
      refine dDraw_ok hm hG hE (pre:=pre ++ [o]) (by rw [hpre];simp) ?_ h (set_ok ho (d:=o.dst) (x:=.dead) trivial) fun s' u' o' k'=>hq s' ((set_up _ _ _).trans u') o' k'
      rw [List.reverse_cons,dal_set,dlb_set]
      exact hD'
    · simp at h
end
end Go.SH
namespace Go.SH
variable [SentA]
section
variable {R:Type} {r:R}
def Tm.leafK (tm:Tm) (ks:List Nat) (b s:St) (k:tm.T → Option R):Option R:=
  match getS (frOf s.L) s.al tm.slots ⟨[],[],[]⟩ with
  | some g=>match getL (frOf s.L) s.L tm.labs (namesC (frOf s.L) s.L tm.cups g) with
    | some g=>match getC (frOf s.L) s.L tm.cups g with
      | some g=>
        let s':=tm.appL g.vs b
        if dirtyOK tm b s = true ∧ (ded (tm.slots.map (·.1) ++ tm.kill) b.al).all (fun p=>p.2.labs (idOK g.m s'.L)) = true ∧
            (ded (tm.labs.map (·.1)) b.L).all (fun p=>idOK g.m s'.L p.1 && dcLabs (idOK g.m s'.L) p.2) = true ∧ tm.cups.all (fun c=>idOK g.m s'.L c.1 && !tm.killL.elem c.1 && !(tm.labs.map (·.1)).elem c.1) = true ∧
            (g.m.all fun p=>(s'.L.map (·.1)).elem p.1) = true ∧ ks.all (fun l=>idOK g.m s'.L l) = true ∧
            (s'.L.all fun p=>s'.L.all fun q=>goneB p.2 || goneB q.2 || decide (lk g.m p.1 = lk g.m q.1 → p.1 = q.1)) = true ∧ nodupM g.m = true then
          reqs (lenF (lenT tm.labs (g.vs.drop (nS tm.slots))) b.L) g.q (match pack tm.hs g.vs with
            | some v=>k v
            | none=>none) else none
      | none=>none
    | none=>none
  | none=>none
theorem reqs_of {len:Nat → Nat} {k:Option R}:∀ {q:List (Nat × Nat)},(∀ p ∈ q,p.2 = len p.1) → reqs len q k = k
  | [],_=>rfl
  | (l,n) :: q,h=>by
    simp only [reqs]
    rw [req_pos (h (l,n) (by simp)),reqs_of fun p hp=>h p (List.mem_cons_of_mem _ hp)]
theorem leafK_ok {tm:Tm} {ks:List Nat} {b s:St} {k:tm.T → Option R} (h:tm.leafK ks b s k = some r):∃ v,tm.leaf ks b s = some v ∧ k v = some r:=by
  unfold Tm.leafK at h
  unfold Tm.leaf
  split at h
  · rename_i g1 h1
    rw [h1];simp only
    split at h
    · rename_i g2 h2
      rw [h2];simp only
      split at h
      · rename_i g3 h3
        rw [h3];simp only at h ⊢
        split at h
        · rename_i hc
          rw [if_pos hc]
          obtain ⟨hq,h⟩:=reqs_ok h
          rw [reqs_of hq]
          split at h
          · rename_i v hv;exact ⟨v,hv,h⟩
          · simp at h
        · simp at h
      · simp at h
    · simp at h
  · simp at h
def exB:Exit → Exit → Bool
  | .ret,.ret=>true
  | .exit i,.exit j=>Nat.beq i j
  | _,_=>false
theorem exB_ok {e e':Exit} (h:exB e e' = true):e = e' ∧ e ≠ .normal:=by
  unfold exB at h
  split at h
  · exact ⟨rfl,by simp⟩
  · have:=Nat.eq_of_beq_eq_true h;subst this;exact ⟨rfl,by simp⟩
  · simp at h
/-- The ways out of a loop. -/
@[reducible] def xty:List (Exit × Tm) → Type
  | []=>Empty
  | [x]=>x.2.T
  | x :: y :: r=>x.2.T ⊕ xty (y :: r)
def xleafK (ks:List Nat) (b:St) (e:Exit) (s:St):(xs:List (Exit × Tm)) → (xty xs → Option R) → Option R
  | [],_=>none
  | [x],k=>if exB e x.1 = true then x.2.leafK ks b s k else none
  | x :: y :: r,k=>if exB e x.1 = true then x.2.leafK ks b s fun v=>k (.inl v) else xleafK ks b e s (y :: r) fun v=>k (.inr v)
def xcont (s:St) (kx:Exit → St → Option R):(xs:List (Exit × Tm)) → xty xs → Option R
  | [],v=>nomatch v
  | [x],v=>kx x.1 (x.2.app v s)
  | x :: y :: r,v=>match v with
    | .inl v=>kx x.1 (x.2.app v s)
    | .inr v=>xcont s kx (y :: r) v
inductive Hint where
  | leaf
  | seq (a b:Hint)
  | join (t:Tm) (a b:Hint)
  | joinX (t:Tm) (a b:Hint)
  | cond (a b:Hint)
  | blk (a:Hint)
  | loop (t:Tm) (xs:List (Exit × Tm)) (a:Hint)
  | reg (hs:OHs)
  | lab (l:Nat) (a b:Hint)
def Hint.one:Hint → Hint
  | .seq a _=>a
  | .cond a _=>a
  | .blk a=>a
  | _=>.leaf
def Hint.two:Hint → Hint
  | .seq _ b=>b
  | .cond _ b=>b
  | _=>.leaf
def Hint.hs:Hint → OHs
  | .reg hs=>hs
  | _=>[]
end
def swK {R:Type} (kf sw:Bool) (s:St) (k:St → Option R):Option R:=match sw with
  | true=>match kf with
    | true=>s.swF k
    | false=>none
  | false=>k s
theorem swK_ok {E:Env} {K:Nat → Prop} {R:Type} {r:R} {kf sw:Bool} {s:St} {k:St → Option R} (hkf:kf = true → ¬ K fkeep) (hG:GOK E) (h:swK kf sw s k = some r) (hs:s.ok) :
    ∃ s',Up s s' ∧ s'.ok ∧ k s' = some r ∧ Weak E K (dal s.al) (dlb s.L) (dal s'.al) (dlb s'.L):=by
  unfold swK at h
  split at h
  · split at h
    · exact swF_ok (hkf rfl) hG h hs
    · simp at h
  · exact ⟨s,.refl s,hs,h,.refl⟩
def Hint.at:Hint → Nat → Hint
  | .lab l a b,k=>match Nat.beq l k with
    | true=>a
    | false=>b.at k
  | _,_=>.leaf
/-- How code is run that no code holds. -/
abbrev RunJ:=Code → Hint → (R:Type) → List Nat → St → (St → Option R) → (Exit → St → Option R) → Option R
/-- Where a goto goes to, so many times at most. -/
def scopeJ (J:RunJ) (body:Code) (h:Hint) {R:Type} (ks:List Nat) (kn:St → Option R) (kx:Exit → St → Option R):Nat → Exit → St → Option R
  | 0,e,s=>match e with
    | .goto _=>none
    | e=>kx e s
  | m + 1,e,s=>match e with
    | .goto l=>match findLabel body l with
      | some rest=>J rest (h.at l) R ks s kn (scopeJ J body h ks kn kx m)
      | none=>none
    | e=>kx e s
/-- What code does to a state, as_ a Lean function. -/
noncomputable def DJ (J:RunJ) (E:Env) (G:GTab) (C:CT E) (n:Nat):Code → Hint → (R:Type) → List Nat → St → (St → Option R) → (Exit → St → Option R) → Option R
  | .skip,_,_,_,s,kn,_=>kn s
  | .label _,_,_,_,s,kn,_=>kn s
  | .exit i,_,_,_,s,_,kx=>kx (.exit i) s
  | .goto i,_,_,_,s,_,kx=>kx (.goto i) s
  | .ret,_,_,_,s,_,kx=>kx .ret s
  | .seq x y,h,R,ks,s,kn,kx=>match h with
    | .join tm a b=>(DJ J E G C n x a tm.T ks s.clean (fun s'=>tm.leafK ks s.clean s' some) (fun _ _=>none)).bind fun v=>DJ J E G C n y b R ks (tm.app v s) kn kx
    | .joinX tm a b=>(DJ J E G C n x a (tm.T ⊕ R) ks s.clean (fun s'=>tm.leafK ks s.clean s' fun v=>some (.inl v)) (fun e s'=>Option.map Sum.inr (kx e { s' with ds:=s'.ds ++ s.ds,dl:=s'.dl ++ s.dl }))).bind fun o=>match o with
      | .inl v=>DJ J E G C n y b R ks (tm.app v s) kn kx
      | .inr v=>some v
    | h=>DJ J E G C n x h.one R ks s (fun s'=>DJ J E G C n y h.two R ks s' kn kx) kx
  | .cond c x y,h,R,ks,s,kn,kx=>match c with
    | .tmp t=>match lget s.al t with
      | some (.bool b)=>cond b (DJ J E G C n x h.one R ks s kn kx) (DJ J E G C n y h.two R ks s kn kx)
      | _=>none
    | .const (.bool b)=>cond b (DJ J E G C n x h.one R ks s kn kx) (DJ J E G C n y h.two R ks s kn kx)
    | _=>none
  | .block i c,h,R,ks,s,kn,kx=>DJ J E G C n c h.one R ks s kn fun e s'=>if exB e (.exit i) = true then kn s' else kx e s'
  | .scope c,h,R,ks,s,kn,kx=>DJ J E G C n c h.one R ks s kn (scopeJ J c h.two ks kn kx 4)
  | .loop c,h,R,ks,s,kn,kx=>match h with
    | .loop tm xs a=>if tm.kOK = true then tm.leafK ks s.clean s.clean fun v0=>
      (loopO (fun v:tm.T=>DJ J E G C n c a (xty xs ⊕ tm.T) ks (tm.app v s.clean) (fun s'=>tm.leafK ks s.clean s' fun w=>some (.inr w)) (fun e s'=>xleafK ks s.clean e s' xs fun w=>some (.inl w))) v0).bind fun o=>xcont s kx xs o else none
    | _=>none
  | .region _ ops dr,h,_,ks,s,kn,_=>swK (!ks.elem fkeep) (ohOf h.hs 9999).sw s fun s=>match dr with
    | false=>dOps E G C n (!ks.elem fkeep) h.hs ops ops.toList 0 s kn
    | true=>dDraw E G C n h.hs ops ops.toList 0 [] s kn
  | .rangeFunc g ps a b,h,R,ks,s,kn,kx=>J (.rangeFunc g ps a b) h R ks s kn kx
  | _,_,_,_,_,_,_=>none
noncomputable def noJ:RunJ:=fun _ _ _ _ _ _ _=>none
noncomputable abbrev D (E:Env) (G:GTab) (C:CT E) (n:Nat):Code → Hint → (R:Type) → List Nat → St → (St → Option R) → (Exit → St → Option R) → Option R:=DJ (DJ noJ E G C n) E G C n
theorem Ext.trans' {b s s':St} (h:Ext b s) (h':Ext s.clean s'):Ext b { s' with ds:=s'.ds ++ s.ds,dl:=s'.dl ++ s.dl }:=by
  refine ⟨fun t ht=>?_,fun l hl=>?_,fun l cs0 hl h0=>?_⟩
  · simp only [List.mem_append,not_or] at ht
    exact (h'.sl t ht.1).trans (h.sl t ht.2)
  · simp only [List.mem_append,not_or] at hl
    exact (h'.lb l fun i=>(hl i).1).trans (h.lb l fun i=>(hl i).2)
  · simp only [List.mem_append,not_or] at hl ⊢
    obtain ⟨cs,c1,c2,c3⟩:=h.ce l cs0 hl.2 h0
    obtain ⟨cs',d1,d2,d3⟩:=h'.ce l cs hl.1 c1
    exact ⟨cs',d1,d2.trans c2,fun i hi=>(d3 i hi.1).trans (c3 i hi.2)⟩
theorem clean_ok {s:St} (h:s.ok):s.clean.ok:=h
section
variable {E:Env} {K:Nat → Prop} {n:Nat} {G:GTab} {C:CT E}
theorem xleafK_ok {ks:List Nat} {b:St} {e:Exit} {s:St} {R:Type} {r:R} (he:Ext b s) (hs:s.ok) (hb:b.ok) (hK:∀ l,K l → l ∈ ks) (hE:GOK E):∀ {xs:List (Exit × Tm)} {k:xty xs → Option R},xleafK ks b e s xs k = some r →
    ∃ v:xty xs,k v = some r ∧ ∃ x ∈ xs,∃ w:x.2.T,e = x.1 ∧ e ≠ .normal ∧ Weak E K (dal s.al) (dlb s.L) (dal (x.2.app w b).al) (dlb (x.2.app w b).L) ∧ (x.2.app w b).ok ∧ ∀ (s0:St) {R':Type} (kx:Exit → St → Option R'),xcont s0 kx xs v = kx x.1 (x.2.app w s0)
  | [],k,h=>by simp [xleafK] at h
  | [x],k,h=>by
    simp only [xleafK] at h
    split at h
    · rename_i hx
      obtain ⟨rfl,hne⟩:=exB_ok hx
      obtain ⟨v,hv,h⟩:=leafK_ok h
      obtain ⟨hw,ho⟩:=leaf_ok hv he hs hb hK hE
      exact ⟨v,h,x,by simp,v,rfl,hne,hw,ho,fun _ _ _=>rfl⟩
    · simp at h
  | x :: y :: rr,k,h=>by
    simp only [xleafK] at h
    split at h
    · rename_i hx
      obtain ⟨rfl,hne⟩:=exB_ok hx
      obtain ⟨v,hv,h⟩:=leafK_ok h
      obtain ⟨hw,ho⟩:=leaf_ok hv he hs hb hK hE
      exact ⟨.inl v,h,x,by simp,v,rfl,hne,hw,ho,fun _ _ _=>rfl⟩
    · obtain ⟨v,h,z,hz,w,e1,e2,e3,e4,e5⟩:=xleafK_ok he hs hb hK hE h
      exact ⟨.inr v,h,z,List.mem_cons_of_mem _ hz,w,e1,e2,e3,e4,fun s0 _ kx=>e5 s0 kx⟩
/-- That a run tells what a piece of code does. -/
def JOK1 (E:Env) (K:Nat → Prop) (n:Nat) (ks:List Nat) (J:RunJ) (c:Code):Prop:=∀ {h:Hint} {R:Type} {s:St} {kn:St → Option R} {kx:Exit → St → Option R} {r:R} {Q:Exit → Al → Lb → Prop},
    J c h R ks s kn kx = some r → s.ok → (∀ s',Up s s' → s'.ok → kn s' = some r → Q .normal (dal s'.al) (dlb s'.L)) → (∀ e s',e ≠ .normal → Up s s' → s'.ok → kx e s' = some r → Q e (dal s'.al) (dlb s'.L)) →
    AW E K n c Q (dal s.al) (dlb s.L)
/-- Of which pieces that is asked. -/
def Cov (JS:Code → Prop):Code → Prop
  | .seq a b=>Cov JS a ∧ Cov JS b
  | .cond _ a b=>Cov JS a ∧ Cov JS b
  | .block _ c=>Cov JS c
  | .loop c=>Cov JS c
  | .scope c=>Cov JS c ∧ ∀ l rest,findLabel c l = some rest → JS rest
  | .rangeFunc g ps a b=>JS (.rangeFunc g ps a b)
  | _=>True
theorem Cov.all {JS:Code → Prop} (h:∀ c,JS c):∀ c,Cov JS c:=by
  intro c
  induction c with
  | seq a b iha ihb=>exact ⟨iha,ihb⟩
  | cond _ a b iha ihb=>exact ⟨iha,ihb⟩
  | block _ c ih=>exact ih
  | loop c ih=>exact ih
  | scope c ih=>exact ⟨ih,fun _ _ _=>h _⟩
  | rangeFunc g ps a b=>exact h _
  | _=>trivial
theorem noJ_ok {ks:List Nat} (c:Code):JOK1 E K n ks noJ c:=fun {h R s kn kx r Q} hr=>by simp [noJ] at hr
theorem scopeJ_ok {J:RunJ} {ks:List Nat} {body:Code} (hJ:∀ l rest,findLabel body l = some rest → JOK1 E K n ks J rest) {h:Hint} {R:Type} {kn:St → Option R} {kx:Exit → St → Option R} {r:R} {Q:Exit → Al → Lb → Prop} {s0:St}
    (hn:∀ s',Up s0 s' → s'.ok → kn s' = some r → Q .normal (dal s'.al) (dlb s'.L)) (hx:∀ e s',e ≠ .normal → Up s0 s' → s'.ok → kx e s' = some r → Q e (dal s'.al) (dlb s'.L)) :
    ∀ (m:Nat) (e:Exit) (s:St),e ≠ .normal → Up s0 s → s.ok → scopeJ J body h ks kn kx m e s = some r → scopeQ E K n body Q e (dal s.al) (dlb s.L):=by
  intro m
  induction m with
  | zero=>
    intro e s hne hu hok hs
    cases e with
    | goto l=>simp [scopeJ] at hs
    | normal=>exact absurd rfl hne
    | exit l=>exact hx _ s hne hu hok (by simpa [scopeJ] using hs)
    | ret=>exact hx _ s hne hu hok (by simpa [scopeJ] using hs)
    | panic c=>exact hx _ s hne hu hok (by simpa [scopeJ] using hs)
    | outgrown=>exact hx _ s hne hu hok (by simpa [scopeJ] using hs)
  | succ m ih=>
    intro e s hne hu hok hs
    cases e with
    | goto l=>
      simp only [scopeJ] at hs
      simp only [scopeQ]
      split at hs
      · rename_i rest hf
        rw [hf]
        refine AWsc_run (hJ l rest hf hs hok (fun s' hu' hok' hk=>?_) fun e s' hne hu' hok' hk=>?_)
        · exact hn s' (hu.trans hu') hok' hk
        · exact ih e s' hne (hu.trans hu') hok' hk
      · simp at hs
    | normal=>exact absurd rfl hne
    | exit l=>exact hx _ s hne hu hok (by simpa [scopeJ] using hs)
    | ret=>exact hx _ s hne hu hok (by simpa [scopeJ] using hs)
    | panic c=>exact hx _ s hne hu hok (by simpa [scopeJ] using hs)
    | outgrown=>exact hx _ s hne hu hok (by simpa [scopeJ] using hs)
theorem DJ_ok {J:RunJ} (hm:E.P.follows .mixedOrders = true) (hG:E.G = gtPV G) (hE:GOK E) {ks:List Nat} (hK:∀ l,K l → l ∈ ks) {JS:Code → Prop} (hJ:∀ c,JS c → JOK1 E K n ks J c):∀ (c:Code),Cov JS c → ∀ {h:Hint} {R:Type} {s:St} {kn:St → Option R} {kx:Exit → St → Option R} {r:R} {Q:Exit → Al → Lb → Prop},
    DJ J E G C n c h R ks s kn kx = some r → s.ok → (∀ s',Up s s' → s'.ok → kn s' = some r → Q .normal (dal s'.al) (dlb s'.L)) → (∀ e s',e ≠ .normal → Up s s' → s'.ok → kx e s' = some r → Q e (dal s'.al) (dlb s'.L)) →
    AW E K n c Q (dal s.al) (dlb s.L):=by
  intro c
  induction c with
  | skip=>intro hcov h R s kn kx r Q hr ho hn hx;exact AW_skip (hn s (.refl s) ho hr)
  | label l=>intro hcov h R s kn kx r Q hr ho hn hx;exact AW_label (hn s (.refl s) ho hr)
  | exit i=>intro hcov h R s kn kx r Q hr ho hn hx;exact AW_exit (hx _ s (by simp) (.refl s) ho hr)
  | goto i=>intro hcov h R s kn kx r Q hr ho hn hx;exact AW_goto (hx _ s (by simp) (.refl s) ho hr)
  | ret=>intro hcov h R s kn kx r Q hr ho hn hx;exact AW_ret (hx _ s (by simp) (.refl s) ho hr)
  | region id ops dr=>
    intro hcov h R s kn kx r Q hr ho hn hx
    simp only [DJ] at hr
    have hkf:(!ks.elem fkeep) = true → ¬ K fkeep:=fun h1 h2=>by
      have:=hK _ h2
      simp at h1
      exact h1 this
    obtain ⟨s1,u1,o1,hr,w1⟩:=swK_ok (E:=E) hkf hE hr ho
    refine AW_weak w1 ?_
    cases dr with
    | false=>exact AW_region (dOps_ok hkf hG hE hr o1 fun s' u=>hn s' (u1.trans u))
    | true=>exact dDraw_ok hm hG hE (pre:=[]) rfl ⟨rfl,rfl,rfl,rfl,by simp,by simp,by simp⟩ hr o1 fun s' u=>hn s' (u1.trans u)
  | cond c x y ihx ihy=>
    intro hcov h R s kn kx r Q hr ho hn hx
    simp only [DJ] at hr
    split at hr
    · rename_i t
      split at hr
      · rename_i b hb
        refine AW_cond (b:=b) (by rw [lget_dal,hb];rfl) (fun e=>?_) fun e=>?_
        · subst e;exact ihx hcov.1 hr ho hn hx
        · subst e;exact ihy hcov.2 hr ho hn hx
      · simp at hr
    · rename_i b
      refine AW_cond_const (fun e=>?_) fun e=>?_
      · subst e;exact ihx hcov.1 hr ho hn hx
      · subst e;exact ihy hcov.2 hr ho hn hx
    · simp at hr
  | block i c ih=>
    intro hcov h R s kn kx r Q hr ho hn hx
    simp only [DJ] at hr
    refine AW_block (ih hcov hr ho hn fun e s' hne hu hok hk=>?_)
    split at hk
    · rename_i he
      obtain ⟨rfl,_⟩:=exB_ok he
      simp only [ablock,if_pos]
      exact hn s' hu hok hk
    · rename_i he
      cases e with
      | exit j=>
        simp only [ablock]
        split
        · rename_i hj;subst hj;simp [exB] at he
        · exact hx _ s' hne hu hok hk
      | normal=>exact absurd rfl hne
      | goto l=>exact hx _ s' hne hu hok hk
      | ret=>exact hx _ s' hne hu hok hk
      | panic c=>exact hx _ s' hne hu hok hk
      | outgrown=>exact hx _ s' hne hu hok hk
  | scope c ih=>
    intro hcov h R s kn kx r Q hr ho hn hx
    simp only [DJ] at hr
    exact AW_scope (AWsc_run (ih hcov.1 hr ho hn fun e s' hne hu hok hk=>scopeJ_ok (fun l rest hf=>hJ rest (hcov.2 l rest hf)) hn hx 4 e s' hne hu hok hk))
  | seq x y ihx ihy=>
    intro hcov h R s kn kx r Q hr ho hn hx
    simp only [DJ] at hr
    split at hr
    · rename_i tm a b
      obtain ⟨v,hv,hr⟩:=bind_some hr
      refine AW_seq ((ihx hcov.1 (Q:=fun e al L=>e = .normal ∧ Weak E K al L (dal (tm.app v s.clean).al) (dlb (tm.app v s.clean).L) ∧ (tm.app v s.clean).ok) hv (clean_ok ho) (fun s' hu hok hk=>?_) (fun e s' hne hu hok hk=>by simp at hk)).mono ?_)
      · obtain ⟨w,hw,hk⟩:=leafK_ok hk
        simp at hk;subst hk
        exact ⟨rfl,leaf_ok hw (hu _ (.refl _)) hok (clean_ok ho) hK hE⟩
      · rintro e al L ⟨rfl,hw,hok⟩
        exact AW_weak hw (ihy hcov.2 (s:=tm.app v s) hr hok (fun s' hu=>hn s' ((app_up tm v s).trans hu)) fun e s' hne hu=>hx e s' hne ((app_up tm v s).trans hu))
    · rename_i tm a b
      obtain ⟨o,hv,hr⟩:=bind_some hr
      refine AW_seq ((ihx hcov.1 (Q:=fun e al L=>match o with
          | .inl v=>e = .normal ∧ Weak E K al L (dal (tm.app v s.clean).al) (dlb (tm.app v s.clean).L) ∧ (tm.app v s.clean).ok
          | .inr w=>e ≠ .normal ∧ Q e al L) hv (clean_ok ho) (fun s' hu hok hk=>?_) (fun e s' hne hu hok hk=>?_)).mono ?_)
      · obtain ⟨w,hw,hk⟩:=leafK_ok hk
        simp at hk;subst hk
        exact ⟨rfl,leaf_ok hw (hu _ (.refl _)) hok (clean_ok ho) hK hE⟩
      · obtain ⟨w,hk',rfl⟩:=map_some hk
        simp at hr;subst hr
        exact ⟨hne,hx e { s' with ds:=s'.ds ++ s.ds,dl:=s'.dl ++ s.dl } hne (fun b hb=>hb.trans' (hu _ (.refl _))) hok hk'⟩
      · intro e al L hq
        cases o with
        | inl v=>
          obtain ⟨rfl,hw,hok⟩:=hq
          exact AW_weak hw (ihy hcov.2 (s:=tm.app v s) hr hok (fun s' hu=>hn s' ((app_up tm v s).trans hu)) fun e s' hne hu=>hx e s' hne ((app_up tm v s).trans hu))
        | inr w=>
          obtain ⟨hne,hq⟩:=hq
          cases e with
          | normal=>exact absurd rfl hne
          | _=>exact hq
    · refine AW_seq (ihx hcov.1 hr ho (fun s' hu hok hk=>ihy hcov.2 hk hok (fun s'' hu'=>hn s'' (hu.trans hu')) fun e s'' hne hu'=>hx e s'' hne (hu.trans hu')) fun e s' hne hu hok hk=>?_)
      have:=hx e s' hne hu hok hk
      cases e with
      | normal=>exact absurd rfl hne
      | _=>exact this
  | loop c ih=>
    intro hcov h R s kn kx r Q hr ho hn hx
    simp only [DJ] at hr
    split at hr
    · rename_i tm xs a
      split at hr
      · rename_i hkOK
        obtain ⟨v0,h0,hr⟩:=leafK_ok hr
        obtain ⟨o,hl,hr⟩:=bind_some hr
        obtain ⟨hw0,_⟩:=leaf_ok h0 (.refl _) (clean_ok ho) (clean_ok ho) hK hE
        refine AW_loopM _ (fun v=>dal (tm.app v s.clean).al) (fun v=>dlb (tm.app v s.clean).L)
          (fun v e al L=>∃ x ∈ xs,∃ w:x.2.T,e = x.1 ∧ Weak E K al L (dal (x.2.app w s.clean).al) (dlb (x.2.app w s.clean).L) ∧ (x.2.app w s.clean).ok ∧ ∀ (s0:St) {R':Type} (kx:Exit → St → Option R'),xcont s0 kx xs v = kx x.1 (x.2.app w s0)) hl hw0 (fun v o' hst=>?_) ?_
        · have hok:=app_ok hkOK v (clean_ok ho)
          have hue:Ext s.clean (tm.app v s.clean):=app_up tm v s.clean _ (.refl _)
          refine ih hcov (s:=tm.app v s.clean) hst hok (fun s' hu hok' hk=>?_) (fun e s' hne hu hok' hk=>?_)
          · obtain ⟨w,hw,hk⟩:=leafK_ok hk
            simp at hk;subst hk
            exact .on (leaf_ok hw (hu _ hue) hok' (clean_ok ho) hK hE).1
          · obtain ⟨w,hk,x,hx,u,e1,e2,e3,e4,e5⟩:=xleafK_ok (hu _ hue) hok' (clean_ok ho) hK hE hk
            simp at hk;subst hk
            exact .off e2 ⟨x,hx,u,e1,e3,e4,e5⟩
        · rintro e al L ⟨x,_,w,rfl,hw,hok,hc⟩ hne
          rw [hc] at hr
          exact ⟨_,_,hw,hx x.1 (x.2.app w s) hne (app_up x.2 w s) hok hr⟩
      · simp at hr
    · simp at hr
  | rangeFunc f ps a b=>intro hcov h R s kn kx r Q hr ho hn hx;simp only [DJ] at hr;exact hJ _ hcov hr ho hn hx
  | refuse=>intro hcov h R s kn kx r Q hr ho hn hx;simp [DJ] at hr
theorem D_ok (hm:E.P.follows .mixedOrders = true) (hG:E.G = gtPV G) (hE:GOK E) {ks:List Nat} (hK:∀ l,K l → l ∈ ks):∀ (c:Code) {h:Hint} {R:Type} {s:St} {kn:St → Option R} {kx:Exit → St → Option R} {r:R} {Q:Exit → Al → Lb → Prop},
    D E G C n c h R ks s kn kx = some r → s.ok → (∀ s',Up s s' → s'.ok → kn s' = some r → Q .normal (dal s'.al) (dlb s'.L)) → (∀ e s',e ≠ .normal → Up s s' → s'.ok → kx e s' = some r → Q e (dal s'.al) (dlb s'.L)) →
    AW E K n c Q (dal s.al) (dlb s.L):=fun c {h R s kn kx r Q}=>DJ_ok (JS:=fun _=>True) hm hG hE hK (fun c _ {h R s kn kx r Q}=>DJ_ok (JS:=fun _=>True) hm hG hE hK (fun c _=>noJ_ok c) c (Cov.all (fun _=>trivial) c)) c (Cov.all (fun _=>trivial) c)
end
end Go.SH
namespace Go.SH
variable [SentA]
/-- The end of a function that hands out plain values. -/
def RetsO (E:Env) (fn:Func) (v:PV):Exit → Al → Lb → Prop:=
  fun e al L=>(match e with | .normal=>True | .ret=>True | _=>False) ∧ ∃ xs,xres E.P al L fn.results.toList = some xs ∧ OutLe L (rtup xs) v
theorem ACalls_pureO {E:Env} (hE:GOK E) {f:FuncId} {fn:Func} {c:Code} {args:List PV} {v:PV} (hf:E.P.funcs[f]? = some fn) (hb:fn.body = some c) (hn:args.length ≤ fn.ntmps)
    (h:AW (E.on none none) (fun _=>False) fn.ntmps c (RetsO (E.on none none) fn v) (entry args 0) []):Pure E f args v:=by
  intro A w σ cargs hl hv hbr hg
  refine calls_of_wp hf hb (wpIn_wide.1 (wpIn_mono (h A w σ _ ⟨?_,hbr,hg,rfl⟩ ?_) ?_))
  · intro t x hx
    obtain ⟨h1,h2⟩:=lget_entry args 0 t x hx
    simp at h2
    have ht:t < cargs.length:=by rw [hl];exact (List.getElem?_eq_some_iff.1 h2).1
    exact ⟨cargs[t],by rw [Array.getElem?_append_left (by simpa using ht)];simp [ht],hv t x _ h2 (List.getElem?_eq_getElem ht)⟩
  · simp;omega
  · rintro e a' w' ⟨al',L',σ',⟨he,xs,hx,z,hz,hle⟩,r',g',t'⟩
    have hdis:∀ β,avOf σ' L' β → ¬ avo A sig0 [] β:=by
      rintro β h (h' | h')
      · exact (r'.blocks.lo β h').2 h
      · exact avz h'
    have hsub:∀ β,¬ avo A σ' L' β → ¬ avo A sig0 [] β:=by
      rintro β h (h' | h')
      · exact h (.inl h')
      · exact avz h'
    obtain ⟨u,h1,h2⟩:=run_results r' hx
    have h2':VR w' sig0 (avo A sig0 []) v u:=hle _ _ _ _ (hz.ok r'.blocks h2 hsub hdis)
    have hbr':BR w' sig0 A []:=BR0 fun β hA=>(r'.blocks.lo β hA).1
    have hgr:Grow (fun l=>lget ([]:Lb) l ≠ none) w σ [] w' sig0 []:=⟨g'.size,fun l y hk=>absurd rfl hk,fun β hb hn=>⟨avz,(g'.keep β hb hn).2⟩,g'.out,fun hk=>absurd rfl hk⟩
    cases e with
    | normal=>exact ⟨r'.nodefer,u,h1,_,u,[],sig0,rfl,⟨rfl,rfl⟩,h2',hbr',hgr⟩
    | ret=>exact ⟨r'.nodefer,u,h1,_,u,[],sig0,rfl,⟨rfl,rfl⟩,h2',hbr',hgr⟩
    | _=>exact he.elim
/-- A result that goes into the first family. -/
inductive FamRes (qq:Nat) (L:Lb):PV → PV → Prop where
  | le {x:PV} {cells:List PV} {n:Nat} (h:PLe x (.fs qq cells n none)) (hp:withinL (fun _=>false) cells = true):FamRes qq L x (.fs qq cells n none)
  | rw {l off n sz:Nat} {co:Option Nat} {cells part ys:List PV} (hl:lget L l = some (some cells)) (hp:(cells.drop off).take (n * sz) = part) (hin:off + n * sz ≤ cells.length) (hpure:withinL (fun _=>false) part = true) (hle:CLe part ys):FamRes qq L (.rw l off n sz co) (.fs qq ys n none)
theorem Weak.virt {E:Env} {K:Nat → Prop} {al:Al} {L:Lb} {l:Nat} (h:lget L l = none):Weak E K al L al (lset L l (some [])):=fun A w σ a r=>by
  obtain ⟨b1,b2⟩:=r.blocks.virtual h
  exact ⟨σ,r.grow b1 b2,b2.weaken fun _ _=>trivial⟩
def virtK {R:Type}:List Nat → DLb → (DLb → Option R) → Option R
  | [],L,k=>k L
  | v :: r,L,k=>match lget L v with
    | none=>virtK r (lset L v (.cs [])) k
    | some _=>none
theorem virtK_ok {E:Env} {K:Nat → Prop} {R:Type} {r:R} {al:Al}:∀ {vs:List Nat} {L:DLb} {k:DLb → Option R},virtK vs L k = some r → lbOk L →
    ∃ L',k L' = some r ∧ lbOk L' ∧ (∀ l,l ∉ vs → lget L' l = lget L l) ∧ Weak E K al (dlb L) al (dlb L')
  | [],L,k,h,hL=>⟨L,h,hL,fun _ _=>rfl,.refl⟩
  | v :: vs,L,k,h,hL=>by
    simp only [virtK] at h
    split at h
    · rename_i hv
      obtain ⟨L',h1,h2,h3,h4⟩:=virtK_ok (E:=E) (K:=K) (al:=al) h (fun l c hc=>by
        rw [lget_lset] at hc
        split at hc
        · simp at hc;subst hc;trivial
        · exact hL l c hc)
      refine ⟨L',h1,h2,fun l hl=>?_,?_⟩
      · simp only [List.mem_cons,not_or] at hl
        rw [h3 l hl.2,lget_lset,if_neg (fun e=>hl.1 e.symm)]
      · refine Weak.trans ?_ h4
        have e:dlb (lset L v (.cs [])) = lset (dlb L) v (some []):=(lset_map DC.pv L v (.cs [])).symm
        rw [e]
        exact Weak.virt (by rw [lget_dlb,hv];rfl)
    · simp at h
def dres (P:Program) (s:St):List ResultVar → Option (List DV)
  | []=>some []
  | .tmp t :: r=>match lget s.al t with
    | some x=>match dres P s r with
      | some xs=>some (x :: xs)
      | none=>none
    | none=>none
  | .cell t T :: r=>match lget s.al t with
    | some (.ptr l off)=>match lget s.L l with
      | some (.cs cs)=>match dpart P T cs off with
        | some x=>match dres P s r with
          | some xs=>some (x :: xs)
          | none=>none
        | none=>none
      | _=>none
    | _=>none
theorem dres_ok {P:Program} {s:St} (hs:s.ok):∀ {rs:List ResultVar} {xs:List DV},dres P s rs = some xs → xres P (dal s.al) (dlb s.L) rs = some (DV.pvs xs) ∧ DV.oks xs
  | [],xs,h=>by simp [dres] at h;subst h;exact ⟨rfl,trivial⟩
  | .tmp t :: r,xs,h=>by
    simp only [dres] at h
    split at h
    · rename_i x hx
      split at h
      · rename_i ys hy
        simp at h;subst h
        obtain ⟨h1,h2⟩:=dres_ok hs hy
        exact ⟨by simp [xres,lget_dal,hx,h1,DV.pvs],hs.1 _ _ hx,h2⟩
      · simp at h
    · simp at h
  | .cell t T :: r,xs,h=>by
    simp only [dres] at h
    split at h
    · rename_i l off ht
      split at h
      · rename_i cs hl
        split at h
        · rename_i x hx
          split at h
          · rename_i ys hy
            simp at h;subst h
            obtain ⟨h1,h2⟩:=dres_ok hs hy
            obtain ⟨_,e2,e3⟩:=dpart_ok (hs.2 _ _ hl) hx
            refine ⟨?_,e3,h2⟩
            simp only [xres,lget_dal,ht,Option.map_some,h1,DV.pvs,DV.pv]
            rw [xload_ro (cells:=DV.pvs cs) (off:=off) (by simp [lcells,lget_dlb,hl,DC.pv]),e2]
          · simp at h
        · simp at h
      · simp at h
    · simp at h
def dtup:List DV → DV
  | [x]=>x
  | xs=>.tup xs
theorem dtup_pv (xs:List DV):(dtup xs).pv = rtup (DV.pvs xs):=by
  cases xs with
  | nil=>rfl
  | cons x xs=>cases xs <;> rfl
def dentry:List DV → Nat → DAl
  | [],_=>[]
  | x :: r,i=>(i,x) :: dentry r (i + 1)
theorem dentry_pv:∀ (xs:List DV) (i:Nat),dal (dentry xs i) = entry (DV.pvs xs) i
  | [],_=>rfl
  | x :: r,i=>by show (i,x.pv) :: dal (dentry r (i + 1)) = _;rw [dentry_pv r];rfl
theorem dentry_ok:∀ {xs:List DV} {i:Nat},DV.oks xs → alOk (dentry xs i)
  | [],_,_=>fun t x h=>by simp [dentry,lget] at h
  | y :: r,i,h=>fun t x hx=>by
    simp only [dentry,lget] at hx
    split at hx
    · simp at hx;subst hx;exact h.1
    · exact dentry_ok h.2 t x hx
/-- A function's run over typed values. -/
noncomputable def DF (E:Env) (G:GTab) (C:CT E) (n:Nat) (rs:List ResultVar) (c:Code) (h:Hint) (ar:List Sh) (out:Sh) (a:HT (Sh.hss ar)) (vs:List Nat:=[]):Option (HT out.hs):=
  let fin (s:St):Option (HT out.hs):=match dres E.P s rs with
    | some ds=>out.getB s.L (dtup ds) ⟨[],[],[]⟩ fun g=>pack out.hs g.vs
    | none=>none
  virtK vs [] fun L=>D E G C n c h (HT out.hs) [] ⟨dentry (Sh.mks dz0 ar (unpack _ a)).1 0,L,[],[]⟩ fin fun e s=>match e with
    | .ret=>fin s
    | _=>none
theorem DF_ok {E:Env} {G:GTab} {C:CT E} (h0:E.on none none = E) (hm:E.P.follows .mixedOrders = true) (hG:E.G = gtPV G) (hE:GOK E) {f:FuncId} {fn:Func} {c:Code} (hf:E.P.funcs[f]? = some fn) (hb:fn.body = some c)
    {h:Hint} {ar:List Sh} {out:Sh} {vs:List Nat} (hk:Sh.kOKs ar = true) (hn:ar.length ≤ fn.ntmps) {a:HT (Sh.hss ar)} {v:HT out.hs} (hv:DF E G C fn.ntmps fn.results.toList c h ar out a vs = some v) :
    Pure E f (DV.pvs (Sh.mks dz0 ar (unpack _ a)).1) (out.mk dz0 (unpack _ v)).1.pv:=by
  have hlen:∀ (ss:List Sh) (vs:List TV),(Sh.mks dz0 ss vs).1.length = ss.length:=by
    intro ss
    induction ss with
    | nil=>intro vs;rfl
    | cons s ss ih=>intro vs;simp only [Sh.mks,List.length_cons];rw [ih]
  refine ACalls_pureO hE hf hb (by rw [pvs_length,hlen];exact hn) ?_
  rw [h0,← dentry_pv]
  have hfin:∀ s:St,s.ok → (match dres E.P s fn.results.toList with
      | some ds=>out.getB s.L (dtup ds) ⟨[],[],[]⟩ fun g=>pack out.hs g.vs
      | none=>none) = some v → ∃ xs,xres E.P (dal s.al) (dlb s.L) fn.results.toList = some xs ∧ OutLe (dlb s.L) (rtup xs) (out.mk dz0 (unpack _ v)).1.pv:=by
    intro s hs hr
    split at hr
    · rename_i ds hds
      obtain ⟨h1,h2⟩:=dres_ok hs hds
      obtain ⟨g,hg,xs,e1,e2,e3⟩:=getB_ok out hr
      obtain ⟨_,e4,_⟩:=e3 dz0 []
      refine ⟨_,h1,?_⟩
      rw [← dtup_pv]
      have e5:g.vs = xs:=by rw [e1];rfl
      rw [List.append_nil,← e5,← pack_ok hg] at e4
      exact e4
    · simp at hr
  obtain ⟨L0,hv,hL0,_,hW⟩:=virtK_ok (E:=E) (K:=fun _=>False) (al:=dal (dentry (Sh.mks dz0 ar (unpack _ a)).1 0)) hv (fun l c hl=>by simp [lget] at hl)
  refine AW_weak hW ?_
  exact D_ok (s:=⟨dentry (Sh.mks dz0 ar (unpack _ a)).1 0,L0,[],[]⟩) (K:=fun _=>False) hm hG hE (fun _ h=>h.elim) c hv ⟨dentry_ok (mks_ok _ _ _ hk),hL0⟩
    (fun s' _ hok hr=>⟨trivial,hfin s' hok hr⟩) fun e s' hne _ hok hr=>by
      cases e with
      | ret=>exact ⟨trivial,hfin s' hok hr⟩
      | _=>simp at hr
end Go.SH
namespace Go.SH
variable [SentA]
theorem ACalls_of_AWW {E:Env} {f:FuncId} {fn:Func} {c:Code} {args:List PV} {L L1:Lb} {al1:Al} {V:PV} (hf:E.P.funcs[f]? = some fn) (hb:fn.body = some c) (hn:args.length ≤ fn.ntmps) (hV:lget al1 0 = some V)
    (h:AW (E.on none none) (fun l=>lget L l ≠ none) fn.ntmps c (fun e al L'=>(match e with | .normal=>True | .ret=>True | _=>False) ∧ ∃ xs,xres E.P al L' fn.results.toList = some xs ∧ Weak (E.on none none) (fun l=>lget L l ≠ none) [(0,rtup xs)] L' al1 L1) (entry args 0) L) :
    ACalls E f args L fun x L'=>x = V ∧ L' = L1:=by
  intro A w σ cargs hl hv hbr hg
  refine calls_of_wp hf hb (wpIn_wide.1 (wpIn_mono (h A w σ _ ⟨?_,hbr,hg,rfl⟩ ?_) ?_))
  · intro t x hx
    obtain ⟨h1,h2⟩:=lget_entry args 0 t x hx
    simp at h2
    have ht:t < cargs.length:=by rw [hl];exact (List.getElem?_eq_some_iff.1 h2).1
    exact ⟨cargs[t],by rw [Array.getElem?_append_left (by simpa using ht)];simp [ht],hv t x _ h2 (List.getElem?_eq_getElem ht)⟩
  · simp;omega
  · rintro e a' w' ⟨al',L',σ',⟨he,xs,hx,hW⟩,r',g',t'⟩
    obtain ⟨v,h1,h2⟩:=run_results r' hx
    have r1:Rel (E.on none none) A w' σ' [(0,rtup xs)] L' { tmps:=#[v],defers:=a'.defers }:=⟨fun t x hx=>by
      simp only [lget] at hx
      split at hx
      · rename_i e;subst e;simp at hx;subst hx;exact ⟨v,rfl,h2⟩
      · simp at hx,r'.blocks,r'.globals,r'.nodefer⟩
    obtain ⟨σ2,r2,g2⟩:=hW A w' σ' _ r1
    obtain ⟨u,h3,h4⟩:=r2.tmps 0 V hV
    simp at h3;subst h3
    cases e with
    | normal=>exact ⟨r'.nodefer,v,h1,_,v,L1,σ2,rfl,⟨rfl,rfl⟩,h4,r2.blocks,g'.trans g2⟩
    | ret=>exact ⟨r'.nodefer,v,h1,_,v,L1,σ2,rfl,⟨rfl,rfl⟩,h4,r2.blocks,g'.trans g2⟩
    | _=>exact he.elim
/-- A function's run over typed values, with the blocks it is handed. -/
noncomputable def DIe (E:Env) (G:GTab) (C:CT E) (n:Nat) (rs:List ResultVar) (c:Code) (h:Hint) (ar:List Sh) (ls:List (Nat × LSh)) (ot:Tm) (a:HT (Sh.hss ar ++ hsL ls)) (ent:List DV) (vs:List Nat):Option ot.T:=
  let b:=inS ar ls (unpack _ a)
  let fin (s:St):Option ot.T:=match dres E.P s rs with
    | some ds=>ot.leafK (keys ls) b ⟨[(0,dtup ds)],s.L,[0],s.dl⟩ some
    | none=>none
  virtK vs b.L fun L=>D E G C n c h ot.T (keys ls) ⟨dentry ent 0,L,[],vs.map fun v=>(v,none)⟩ fin fun e s=>match e with
    | .ret=>fin s
    | _=>none
noncomputable def DI (E:Env) (G:GTab) (C:CT E) (n:Nat) (rs:List ResultVar) (c:Code) (h:Hint) (ar:List Sh) (ls:List (Nat × LSh)) (ot:Tm) (a:HT (Sh.hss ar ++ hsL ls)) (vs:List Nat:=[]):Option ot.T:=
  DIe E G C n rs c h ar ls ot a (inA ar ls (unpack _ a)) vs
def slot0 (ot:Tm):Bool:=match ot.slots with
  | [(0,_)]=>true
  | _=>false
theorem dtup_ok {ds:List DV} (h:DV.oks ds):(dtup ds).ok:=by
  cases ds with
  | nil=>trivial
  | cons x xs=>cases xs with
    | nil=>exact h.1
    | cons y ys=>exact h
theorem resV_lget {ot:Tm} (h:slot0 ot = true) (v:ot.T) {b:St}:∃ V,lget (ot.app v b).al 0 = some V:=by
  unfold slot0 at h
  split at h
  · rename_i s hs
    have:∃ x r,(ot.app v b).al = (0,x) :: r:=by
      simp only [Tm.app,Tm.appL,hs,mkS,List.cons_append,List.nil_append]
      exact ⟨_,_,rfl⟩
    obtain ⟨x,r,e⟩:=this
    exact ⟨x,by rw [e];simp [lget]⟩
  · simp at h
theorem DIe_ok {E:Env} {G:GTab} {C:CT E} (h0:E.on none none = E) (hm:E.P.follows .mixedOrders = true) (hG:E.G = gtPV G) (hE:GOK E) {f:FuncId} {fn:Func} {c:Code} (hf:E.P.funcs[f]? = some fn) (hb:fn.body = some c)
    {h:Hint} {ar:List Sh} {ls:List (Nat × LSh)} {ot:Tm} {vs:List Nat} (hk2:(ls.all fun p=>p.2.kOK) = true) (hk3:slot0 ot = true) {ent:List DV} (hent:DV.oks ent) (hk4:ent.length ≤ fn.ntmps) {a:HT (Sh.hss ar ++ hsL ls)} {v:ot.T} (hv:DIe E G C fn.ntmps fn.results.toList c h ar ls ot a ent vs = some v) :
    ACalls E f (DV.pvs ent) (dlb (inL ar ls (unpack _ a))) fun x L=>x = (resV (ot.app v (inS ar ls (unpack _ a)))).pv ∧ L = dlb (ot.app v (inS ar ls (unpack _ a))).L:=by
  obtain ⟨V,hV⟩:=resV_lget hk3 v (b:=inS ar ls (unpack _ a))
  have hres:resV (ot.app v (inS ar ls (unpack _ a))) = V:=by unfold resV;rw [hV]
  rw [hres]
  have hbok:(inS ar ls (unpack _ a)).ok:=⟨fun t x hx=>by simp [inS,lget] at hx,fun l c hl=>mkL_okk hk2 (l,c) (mem_of_lget hl)⟩
  refine ACalls_of_AWW hf hb (by rw [pvs_length];exact hk4) (by rw [lget_dal,hV];rfl) ?_
  rw [h0,← dentry_pv]
  obtain ⟨L0,hv,hL0,hvs,hW⟩:=virtK_ok (E:=E) (K:=fun l=>lget (dlb (inL ar ls (unpack _ a))) l ≠ none) (al:=dal (dentry ent 0)) hv hbok.2
  refine AW_weak hW ?_
  have hbase:Ext ⟨dentry ent 0,(inS ar ls (unpack _ a)).L,[],[]⟩ ⟨dentry ent 0,L0,[],vs.map fun v=>(v,none)⟩:=by
    have hno:∀ {l:Nat},(l,none) ∉ (vs.map fun v=>((v,none):Nat × Option Nat)) → l ∉ vs:=fun {l} h hm=>h (List.mem_map.2 ⟨l,hm,rfl⟩)
    refine ⟨fun _ _=>rfl,fun l hl=>hvs l (hno (hl none)),fun l cs0 hl h0=>⟨cs0,?_,rfl,fun _ _=>rfl⟩⟩
    rw [← h0];exact hvs l (hno hl)
  have hfin:∀ s:St,Up ⟨dentry ent 0,L0,[],vs.map fun v=>(v,none)⟩ s → s.ok → (match dres E.P s fn.results.toList with
      | some ds=>ot.leafK (keys ls) (inS ar ls (unpack _ a)) ⟨[(0,dtup ds)],s.L,[0],s.dl⟩ some
      | none=>none) = some v → ∃ xs,xres E.P (dal s.al) (dlb s.L) fn.results.toList = some xs ∧ Weak E (fun l=>lget (dlb (inL ar ls (unpack _ a))) l ≠ none) [(0,rtup xs)] (dlb s.L) (dal (ot.app v (inS ar ls (unpack _ a))).al) (dlb (ot.app v (inS ar ls (unpack _ a))).L):=by
    intro s hu hs hr
    split at hr
    · rename_i ds hds
      obtain ⟨h1,h2⟩:=dres_ok hs hds
      refine ⟨_,h1,?_⟩
      obtain ⟨w,hw,hr⟩:=leafK_ok hr
      simp at hr;subst hr
      have he:=hu _ hbase
      have:=(leaf_ok (E:=E) (K:=fun l=>lget (dlb (inL ar ls (unpack _ a))) l ≠ none) hw ⟨fun t ht=>?_,he.lb,he.ce⟩ ⟨fun t x hx=>?_,hs.2⟩ hbok (fun l hl=>?_) hE).1
      · rw [← dtup_pv];exact this
      · simp only [List.mem_singleton] at ht
        simp [lget,inS,Ne.symm ht]
      · simp only [lget] at hx
        split at hx
        · simp at hx;subst hx
          exact dtup_ok h2
        · simp at hx
      · have:hasL (dlb (inL ar ls (unpack _ a))) l = true:=by simpa [hasL,Option.isSome_iff_ne_none] using hl
        rw [hasL_keys] at this
        unfold inL at this
        rw [show keys (mkL (inLen ar ls (unpack _ a)) ls (Sh.mks (inLen ar ls (unpack _ a)) ar (unpack _ a)).2).1 = keys ls from mkL_keys _ _ _] at this
        simpa using this
    · simp at hr
  exact D_ok (s:=⟨dentry ent 0,L0,[],vs.map fun v=>(v,none)⟩) hm hG hE (fun l hl=>by
      have:hasL (dlb (inL ar ls (unpack _ a))) l = true:=by simpa [hasL,Option.isSome_iff_ne_none] using hl
      rw [hasL_keys] at this
      unfold inL at this
      rw [show keys (mkL (inLen ar ls (unpack _ a)) ls (Sh.mks (inLen ar ls (unpack _ a)) ar (unpack _ a)).2).1 = keys ls from mkL_keys _ _ _] at this
      simpa using this) c hv ⟨dentry_ok hent,hL0⟩
    (fun s' hu hok hr=>⟨trivial,hfin s' hu hok hr⟩) fun e s' hne hu hok hr=>by
      cases e with
      | ret=>exact ⟨trivial,hfin s' hu hok hr⟩
      | _=>simp at hr
theorem DI_ok {E:Env} {G:GTab} {C:CT E} (h0:E.on none none = E) (hm:E.P.follows .mixedOrders = true) (hG:E.G = gtPV G) (hE:GOK E) {f:FuncId} {fn:Func} {c:Code} (hf:E.P.funcs[f]? = some fn) (hb:fn.body = some c)
    {h:Hint} {ar:List Sh} {ls:List (Nat × LSh)} {ot:Tm} {vs:List Nat} (hk:Sh.kOKs ar = true ∧ (ls.all fun p=>p.2.kOK) = true ∧ slot0 ot = true ∧ decide (ar.length ≤ fn.ntmps) = true) {a:HT (Sh.hss ar ++ hsL ls)} {v:ot.T} (hv:DI E G C fn.ntmps fn.results.toList c h ar ls ot a vs = some v) :
    ACalls E f (DV.pvs (inA ar ls (unpack _ a))) (dlb (inL ar ls (unpack _ a))) fun x L=>x = (resV (ot.app v (inS ar ls (unpack _ a)))).pv ∧ L = dlb (ot.app v (inS ar ls (unpack _ a))).L:=by
  obtain ⟨hk1,hk2,hk3,hk4⟩:=hk
  simp only [decide_eq_true_eq] at hk4
  exact DIe_ok h0 hm hG hE hf hb hk2 hk3 (mks_ok _ _ _ hk1) (by rw [mks_len];exact hk4) hv
end Go.SH
namespace Go.SH
variable [SentA]
/-- The label that a row is taken by. -/
def rlab:Nat:=50
section
variable {E:Env} {K:Nat → Prop} {al:Al} {L:Lb} {T:ET}
end
end Go.SH
namespace Go.SH
variable [SentA]
section
variable {E:Env} {K:Nat → Prop} {n:Nat} {G:GTab} {C:CT E} {ks:List Nat}
end
def s3 (T:ET) (c0:List DV) (Lr:DLb) (N:Nat) (r:Int) (nn:Nat) (dds:List DV) (cont:List T.T):St:=
  ⟨[(3,.rw rlab T.sz 0 nn none true),(9,.rw 1 1 0 N none true),(10,.int .i64 N),(11,.int .i64 r),(0,.ptr 0 0)],(0,.cs c0) :: (1,.cs dds) :: (Lr ++ [(rlab,.ls T cont)]),[],[]⟩
end Go.SH
namespace Go.SH
variable [SentA]
/-- All that is cells stays, and all that lies below. -/
structure KeepX (B:Nat) (W W':World):Prop where
  size:W.heap.size ≤ W'.heap.size
  cel:∀ (β:Nat) c T fr,W.heap[β]? = some (Obj.cells c T fr) → W'.heap[β]? = some (Obj.cells c T fr)
  low:∀ (β:Nat),β < B → W'.heap[β]? = W.heap[β]?
  out:W'.os = W.os ∧ W'.output = W.output ∧ W'.tape = W.tape
def GV (G:List (Nat × List PV)) (W:World) (σ:Sig) (av:Nat → Prop):Prop:=∀ g cells,lget G g = some cells → VR W σ av (.rop cells 0) (.pointer (some ⟨g,0,none⟩))
abbrev GV0 (E:Env) (W:World):Prop:=GV E.G W sig0 (fun _=>False)
end Go.SH
namespace Go.SH
variable [SentA]
section
variable {E:Env} {K:Nat → Prop} {n:Nat} {al:Al} {Q:Exit → Al → Lb → Prop}
/-- The record of a loop. -/
abbrev rcL (fn:Nat) (tmps:Array Value) (p:Nat) (assign body:Code) (dfr:Nat) (st:LoopState) (pe:Option Code):Loop:={ state:=st,pending:=pe,fn:=fn,tmps:=tmps,params:=#[p],assign:=assign,body:=body,defers:=dfr }
end
end Go.SH
namespace Go.SH
variable [SentA]
section
variable {E:Env} {n:Nat}
abbrev is1 (al1:Al):Exit → Al → Lb → Prop:=fun e al' L'=>e = .normal ∧ al' = al1 ∧ L' = []
end
end Go.SH
namespace Go.SH
def itoa (n:Int):Option (List UInt8):=req (-9223372036854775808 ≤ n ∧ n ≤ 9223372036854775807) (some (Lib.itoa n))
def idxB (s:List UInt8) (c:UInt8):Option Int:=some (Lib.indexByte s c)
abbrev FaT:ET:=.tp (.ti .i64) (.te 71)
def isE (e t:Option Nat):Option Bool:=match t with
  | none=>none
  | some b=>some (e == some b)
def isF (x:Option (Int × Option Nat)) (t:Option Nat):Option Bool:=match t with
  | none=>none
  | some b=>match x with
    | none=>some false
    | some y=>some (y.2 == some b)
def asFa (x:Option (Int × Option Nat)):Option (Bool × Option (Int × Option Nat)):=some (x.isSome,x)
def asE0:Option Unit:=some ()
end Go.SH
set_option maxRecDepth 100000
namespace Go.SH
abbrev K6f24:ET:=.tp (.tl .tu) (.tp (.ti .i64) (.ti .i64))
abbrev K6677:ET:=.tp (.ti .i64) (.tp (.tp (.ti .i64) K6f24) (.tl .tu))
abbrev K5605:ET:=.tp (.ti .i64) (.tp (.ti .i64) (.tp (.ti .i64) K6677))
abbrev K636e:ET:=.tp (.ti .i64) (.tl (.tp (.ti .i64) K6f24))
def lit_70b7c:List UInt8:=[106,111,105,110,32,51,32,119,114,105,116,101,10,111,117,116,32,34,104,105,92,48,100,34,10,116,105,99,107,32,49,48,10]
def lit_45a69:List UInt8:=[100,101,108,105,118,101,114]
def lit_4032a:List UInt8:=[48,49,50,51,52,53,54,55,56,57,97,98,99,100,101,102]
def lit_1d2e6:List UInt8:=[116,105,99,107,32,48,49,48,10]
def lit_7c404:List UInt8:=[116,105,99,107,32,53,10,107,101,121,115,32,51,32,34,34,10]
def lit_b92a4:List UInt8:=[100,101,108,105,118,101,114,32]
def lit_4b1dc:List UInt8:=[116,105,99,107,32,49,48]
def lit_5cf80:List UInt8:=[116,111,111,32,108,111,110,103]
def lit_28e3a:List UInt8:=[110,111,32,108,105,110,101,32,102,101,101,100]
def bodyOf (f:Func):Code:=f.body.getD .skip
end Go.SH
set_option maxRecDepth 100000
namespace Go.SH
abbrev zfP (x:(Int × Int × Int) × Int × Int × Int × ((Int × Int × (Int × Int × Int) × Bool × Bool) × (Int × Int × (Int × Int × Int) × Bool × Bool)) × (Int × Int × Int × Int) × List Int):Int × Int × Int × Int × Int × Int × Int × Int × Int × Int × Int × Bool × Bool × Int × Int × Int × Int × Int × Bool × Bool × Int × Int × Int × Int × List Int:=(x.1.1,x.1.2.1,x.1.2.2,x.2.1,x.2.2.1,x.2.2.2.1,x.2.2.2.2.1.1.1,x.2.2.2.2.1.1.2.1,x.2.2.2.2.1.1.2.2.1.1,x.2.2.2.2.1.1.2.2.1.2.1,x.2.2.2.2.1.1.2.2.1.2.2,x.2.2.2.2.1.1.2.2.2.1,x.2.2.2.2.1.1.2.2.2.2,x.2.2.2.2.1.2.1,x.2.2.2.2.1.2.2.1,x.2.2.2.2.1.2.2.2.1.1,x.2.2.2.2.1.2.2.2.1.2.1,x.2.2.2.2.1.2.2.2.1.2.2,x.2.2.2.2.1.2.2.2.2.1,x.2.2.2.2.1.2.2.2.2.2,x.2.2.2.2.2.1.1,x.2.2.2.2.2.1.2.1,x.2.2.2.2.2.1.2.2.1,x.2.2.2.2.2.1.2.2.2,x.2.2.2.2.2.2)
abbrev znP (x:Int × Int × Int × Int × Int × Int × Int × Int × Int × Int × Int × Bool × Bool × Int × Int × Int × Int × Int × Bool × Bool × Int × Int × Int × Int × List Int):(Int × Int × Int) × Int × Int × Int × ((Int × Int × (Int × Int × Int) × Bool × Bool) × (Int × Int × (Int × Int × Int) × Bool × Bool)) × (Int × Int × Int × Int) × List Int:=((x.1,x.2.1,x.2.2.1),x.2.2.2.1,x.2.2.2.2.1,x.2.2.2.2.2.1,((x.2.2.2.2.2.2.1,x.2.2.2.2.2.2.2.1,(x.2.2.2.2.2.2.2.2.1,x.2.2.2.2.2.2.2.2.2.1,x.2.2.2.2.2.2.2.2.2.2.1),x.2.2.2.2.2.2.2.2.2.2.2.1,x.2.2.2.2.2.2.2.2.2.2.2.2.1),x.2.2.2.2.2.2.2.2.2.2.2.2.2.1,x.2.2.2.2.2.2.2.2.2.2.2.2.2.2.1,(x.2.2.2.2.2.2.2.2.2.2.2.2.2.2.2.1,x.2.2.2.2.2.2.2.2.2.2.2.2.2.2.2.2.1,x.2.2.2.2.2.2.2.2.2.2.2.2.2.2.2.2.2.1),x.2.2.2.2.2.2.2.2.2.2.2.2.2.2.2.2.2.2.1,x.2.2.2.2.2.2.2.2.2.2.2.2.2.2.2.2.2.2.2.1),(x.2.2.2.2.2.2.2.2.2.2.2.2.2.2.2.2.2.2.2.2.1,x.2.2.2.2.2.2.2.2.2.2.2.2.2.2.2.2.2.2.2.2.2.1,x.2.2.2.2.2.2.2.2.2.2.2.2.2.2.2.2.2.2.2.2.2.2.1,x.2.2.2.2.2.2.2.2.2.2.2.2.2.2.2.2.2.2.2.2.2.2.2.1),x.2.2.2.2.2.2.2.2.2.2.2.2.2.2.2.2.2.2.2.2.2.2.2.2)
abbrev zeP {v0 v1 v2 v3 v4 v5 v6 v7 v8 v9 v10 v11 v12 v13 v14 v15 v16 v17 v18 v19 v20 v21 v22 v23 v24:Type} (x:v0 × v1 × v2 × v3 × v4 × v5 × v6 × v7 × v8 × v9 × v10 × v11 × v12 × v13 × v14 × v15 × v16 × v17 × v18 × v19 × v20 × v21 × v22 × v23 × v24):v0 × v1 × v2 × v3 × v4 × v5 × v6 × v7 × v8 × v9 × v10 × v11 × v12 × v13 × v14 × v15 × v16 × v17 × v18 × v19 × v20 × v21 × v22 × v23 × v24:=(x.1,x.2.1,x.2.2.1,x.2.2.2.1,x.2.2.2.2.1,x.2.2.2.2.2.1,x.2.2.2.2.2.2.1,x.2.2.2.2.2.2.2.1,x.2.2.2.2.2.2.2.2.1,x.2.2.2.2.2.2.2.2.2.1,x.2.2.2.2.2.2.2.2.2.2.1,x.2.2.2.2.2.2.2.2.2.2.2.1,x.2.2.2.2.2.2.2.2.2.2.2.2.1,x.2.2.2.2.2.2.2.2.2.2.2.2.2.1,x.2.2.2.2.2.2.2.2.2.2.2.2.2.2.1,x.2.2.2.2.2.2.2.2.2.2.2.2.2.2.2.1,x.2.2.2.2.2.2.2.2.2.2.2.2.2.2.2.2.1,x.2.2.2.2.2.2.2.2.2.2.2.2.2.2.2.2.2.1,x.2.2.2.2.2.2.2.2.2.2.2.2.2.2.2.2.2.2.1,x.2.2.2.2.2.2.2.2.2.2.2.2.2.2.2.2.2.2.2.1,x.2.2.2.2.2.2.2.2.2.2.2.2.2.2.2.2.2.2.2.2.1,x.2.2.2.2.2.2.2.2.2.2.2.2.2.2.2.2.2.2.2.2.2.1,x.2.2.2.2.2.2.2.2.2.2.2.2.2.2.2.2.2.2.2.2.2.2.1,x.2.2.2.2.2.2.2.2.2.2.2.2.2.2.2.2.2.2.2.2.2.2.2.1,x.2.2.2.2.2.2.2.2.2.2.2.2.2.2.2.2.2.2.2.2.2.2.2.2)
abbrev zfK {r:Type} (x:(Int × Int × Int) × Int × Int × Int × ((Int × Int × (Int × Int × Int) × Bool × Bool) × (Int × Int × (Int × Int × Int) × Bool × Bool)) × (Int × Int × Int × Int) × List Int) (y:r):Int × Int × Int × Int × Int × Int × Int × Int × Int × Int × Int × Bool × Bool × Int × Int × Int × Int × Int × Bool × Bool × Int × Int × Int × Int × List Int × r:=(x.1.1,x.1.2.1,x.1.2.2,x.2.1,x.2.2.1,x.2.2.2.1,x.2.2.2.2.1.1.1,x.2.2.2.2.1.1.2.1,x.2.2.2.2.1.1.2.2.1.1,x.2.2.2.2.1.1.2.2.1.2.1,x.2.2.2.2.1.1.2.2.1.2.2,x.2.2.2.2.1.1.2.2.2.1,x.2.2.2.2.1.1.2.2.2.2,x.2.2.2.2.1.2.1,x.2.2.2.2.1.2.2.1,x.2.2.2.2.1.2.2.2.1.1,x.2.2.2.2.1.2.2.2.1.2.1,x.2.2.2.2.1.2.2.2.1.2.2,x.2.2.2.2.1.2.2.2.2.1,x.2.2.2.2.1.2.2.2.2.2,x.2.2.2.2.2.1.1,x.2.2.2.2.2.1.2.1,x.2.2.2.2.2.1.2.2.1,x.2.2.2.2.2.1.2.2.2,x.2.2.2.2.2.2,y)
abbrev znK {r:Type} (x:Int × Int × Int × Int × Int × Int × Int × Int × Int × Int × Int × Bool × Bool × Int × Int × Int × Int × Int × Bool × Bool × Int × Int × Int × Int × List Int × r):(Int × Int × Int) × Int × Int × Int × ((Int × Int × (Int × Int × Int) × Bool × Bool) × (Int × Int × (Int × Int × Int) × Bool × Bool)) × (Int × Int × Int × Int) × List Int:=((x.1,x.2.1,x.2.2.1),x.2.2.2.1,x.2.2.2.2.1,x.2.2.2.2.2.1,((x.2.2.2.2.2.2.1,x.2.2.2.2.2.2.2.1,(x.2.2.2.2.2.2.2.2.1,x.2.2.2.2.2.2.2.2.2.1,x.2.2.2.2.2.2.2.2.2.2.1),x.2.2.2.2.2.2.2.2.2.2.2.1,x.2.2.2.2.2.2.2.2.2.2.2.2.1),x.2.2.2.2.2.2.2.2.2.2.2.2.2.1,x.2.2.2.2.2.2.2.2.2.2.2.2.2.2.1,(x.2.2.2.2.2.2.2.2.2.2.2.2.2.2.2.1,x.2.2.2.2.2.2.2.2.2.2.2.2.2.2.2.2.1,x.2.2.2.2.2.2.2.2.2.2.2.2.2.2.2.2.2.1),x.2.2.2.2.2.2.2.2.2.2.2.2.2.2.2.2.2.2.1,x.2.2.2.2.2.2.2.2.2.2.2.2.2.2.2.2.2.2.2.1),(x.2.2.2.2.2.2.2.2.2.2.2.2.2.2.2.2.2.2.2.2.1,x.2.2.2.2.2.2.2.2.2.2.2.2.2.2.2.2.2.2.2.2.2.1,x.2.2.2.2.2.2.2.2.2.2.2.2.2.2.2.2.2.2.2.2.2.2.1,x.2.2.2.2.2.2.2.2.2.2.2.2.2.2.2.2.2.2.2.2.2.2.2.1),x.2.2.2.2.2.2.2.2.2.2.2.2.2.2.2.2.2.2.2.2.2.2.2.2.1)
noncomputable def stringslite_Index_cc6 (a0:List UInt8):Option (Int):=(bif ([10]:List UInt8) == a0 then some true else some false:Option (Bool)).bind fun x1=>bif x1 then some 0 else (getI [10] 0).bind fun x2=>(idxB a0 x2).bind fun x3=>some x3
noncomputable def stringslite_Cut_cc6 (a0:List UInt8):Option (List UInt8 × List UInt8 × Bool):=(stringslite_Index_cc6 a0).bind fun x1=>(bif decide (x1 ≥ 0) then some true else some false:Option (Bool)).bind fun x2=>bif x2 then req (0 ≤ (0:Int) ∧ (0:Int) ≤ x1 ∧ x1 ≤ ((a0.length:Nat):Int)) <| req (0 ≤ (IntKind.i64.wrap (x1 + 1)) ∧ (IntKind.i64.wrap (x1 + 1)) ≤ ((a0.length:Nat):Int) ∧ ((a0.length:Nat):Int) ≤ ((a0.length:Nat):Int)) <| some ((sub a0 0 x1.toNat),(sub a0 ((IntKind.i64.wrap (x1 + 1)).toNat) a0.length),true) else some (a0,[],false)
noncomputable def strings_Cut_cc6 (a0:List UInt8):Option (List UInt8 × List UInt8 × Bool):=(stringslite_Cut_cc6 a0).bind fun x1=>some (x1.1,x1.2.1,x1.2.2)
noncomputable def stringslite_Index_1a5 (a0:List UInt8):Option (Int):=(bif ([32]:List UInt8) == a0 then some true else some false:Option (Bool)).bind fun x1=>bif x1 then some 0 else (getI [32] 0).bind fun x2=>(idxB a0 x2).bind fun x3=>some x3
noncomputable def stringslite_Cut_1a5 (a0:List UInt8):Option (List UInt8 × List UInt8 × Bool):=(stringslite_Index_1a5 a0).bind fun x1=>(bif decide (x1 ≥ 0) then some true else some false:Option (Bool)).bind fun x2=>bif x2 then req (0 ≤ (0:Int) ∧ (0:Int) ≤ x1 ∧ x1 ≤ ((a0.length:Nat):Int)) <| req (0 ≤ (IntKind.i64.wrap (x1 + 1)) ∧ (IntKind.i64.wrap (x1 + 1)) ≤ ((a0.length:Nat):Int) ∧ ((a0.length:Nat):Int) ≤ ((a0.length:Nat):Int)) <| some ((sub a0 0 x1.toNat),(sub a0 ((IntKind.i64.wrap (x1 + 1)).toNat) a0.length),true) else some (a0,[],false)
noncomputable def strings_Cut_1a5 (a0:List UInt8):Option (List UInt8 × List UInt8 × Bool):=(stringslite_Cut_1a5 a0).bind fun x1=>some (x1.1,x1.2.1,x1.2.2)
noncomputable def script_form (a0:List UInt8):Option (List UInt8):=((bif (a0:List UInt8) == [106,111,105,110] then some true else some false:Option (Bool)).bind fun x2=>bif x2 then some x2 else bif (a0:List UInt8) == [114,111,108,101] then some true else some false:Option (Bool)).bind fun x3=>bif x3 then some ([73,82]) else ((bif (a0:List UInt8) == [108,101,97,118,101] then some true else some false:Option (Bool)).bind fun x6=>bif x6 then some x6 else (bif (a0:List UInt8) == [97,115,107] then some true else some false:Option (Bool)).bind fun x7=>bif x7 then some x7 else bif (a0:List UInt8) == [102,114,101,101] then some true else some false:Option (Bool)).bind fun x8=>bif x8 then some ([73]) else (bif (a0:List UInt8) == [111,117,116] then some true else some false:Option (Bool)).bind fun x9=>bif x9 then some ([84]) else (bif (a0:List UInt8) == [107,101,121,115] then some true else some false:Option (Bool)).bind fun x10=>bif x10 then some ([73,75]) else (bif (a0:List UInt8) == [115,105,122,101] then some true else some false:Option (Bool)).bind fun x11=>bif x11 then some ([73,87,87]) else (bif (a0:List UInt8) == [116,105,99,107] then some true else some false:Option (Bool)).bind fun x12=>bif x12 then some ([78]) else (bif (a0:List UInt8) == lit_45a69 then some true else some false:Option (Bool)).bind fun x13=>bif x13 then some ([80]) else (bif (a0:List UInt8) == [115,112,111,105,108] then some true else some false:Option (Bool)).bind fun x14=>bif x14 then some ([80,88]) else (bif (a0:List UInt8) == [109,111,118,101] then some true else some false:Option (Bool)).bind fun x15=>bif x15 then some ([73,65]) else (bif (a0:List UInt8) == [102,111,114,103,101] then some true else some false:Option (Bool)).bind fun x16=>bif x16 then some ([73,65,83,84]) else some ([])
noncomputable def strings_Index_1a5 (a0:List UInt8):Option (Int):=(stringslite_Index_1a5 a0).bind fun x1=>some x1
noncomputable def strings_genSplit_92d_loop1 (a0:List UInt8) (a2:Int) (a1:Int) (x7:List UInt8 × Int × List (List UInt8)):Option (((List UInt8 × Int × List (List UInt8))) ⊕ (List UInt8 × Int × List (List UInt8))):=(bif decide (x7.2.1 < (IntKind.i64.wrap ((if (IntKind.i64.wrap ((a0.length:Int) + 1)) < a2 then (IntKind.i64.wrap ((a0.length:Int) + 1)) else a2) - 1))) then some true else some false:Option (Bool)).bind fun x8=>bif x8 then (strings_Index_1a5 x7.1).bind fun x9=>(bif decide (x9 < 0) then some true else some false:Option (Bool)).bind fun x10=>bif x10 then some (.inl (x7.1,x7.2.1,x7.2.2)) else req (0 ≤ (0:Int) ∧ (0:Int) ≤ (IntKind.i64.wrap (x9 + a1)) ∧ (IntKind.i64.wrap (x9 + a1)) ≤ ((x7.1.length:Nat):Int)) <| req (0 ≤ x7.2.1 ∧ x7.2.1 < (((if (IntKind.i64.wrap ((a0.length:Int) + 1)) < a2 then (IntKind.i64.wrap ((a0.length:Int) + 1)) else a2).toNat:Nat):Int)) <| (x7.2.2[x7.2.1.toNat]?).bind fun x11=>req (0 ≤ (IntKind.i64.wrap (x9 + 1)) ∧ (IntKind.i64.wrap (x9 + 1)) ≤ ((x7.1.length:Nat):Int) ∧ ((x7.1.length:Nat):Int) ≤ ((x7.1.length:Nat):Int)) <| some (.inr ((sub x7.1 ((IntKind.i64.wrap (x9 + 1)).toNat) x7.1.length),IntKind.i64.wrap (x7.2.1 + 1),x7.2.2.set x7.2.1.toNat (sub x7.1 0 ((IntKind.i64.wrap (x9 + a1)).toNat)))) else some (.inl (x7.1,x7.2.1,x7.2.2))
noncomputable def strings_genSplit_92d (a0:List UInt8) (a1:Int) (a2:Int):Option (List (List UInt8)):=(bif a2 == 0 then some true else some false:Option (Bool)).bind fun x1=>bif x1 then some ([]:List (List UInt8)) else (bif decide (a2 < 0) then some true else some false:Option (Bool)).bind fun x2=>bif x2 then none else req (0 ≤ (if (IntKind.i64.wrap ((a0.length:Int) + 1)) < a2 then (IntKind.i64.wrap ((a0.length:Int) + 1)) else a2) ∧ (if (IntKind.i64.wrap ((a0.length:Int) + 1)) < a2 then (IntKind.i64.wrap ((a0.length:Int) + 1)) else a2) ≤ (if (IntKind.i64.wrap ((a0.length:Int) + 1)) < a2 then (IntKind.i64.wrap ((a0.length:Int) + 1)) else a2) ∧ (if (IntKind.i64.wrap ((a0.length:Int) + 1)) < a2 then (IntKind.i64.wrap ((a0.length:Int) + 1)) else a2).toNat * 16 ≤ maxBy) <| (loopO (strings_genSplit_92d_loop1 a0 a2 a1) (a0,0,(List.replicate ((if (IntKind.i64.wrap ((a0.length:Int) + 1)) < a2 then (IntKind.i64.wrap ((a0.length:Int) + 1)) else a2).toNat) []:List (List UInt8)))).bind fun x12=>req (0 ≤ x12.2.1 ∧ x12.2.1 < (((if (IntKind.i64.wrap ((a0.length:Int) + 1)) < a2 then (IntKind.i64.wrap ((a0.length:Int) + 1)) else a2).toNat:Nat):Int)) <| (x12.2.2[x12.2.1.toNat]?).bind fun x13=>req (0 ≤ (0:Int) ∧ (0:Int) ≤ (IntKind.i64.wrap (x12.2.1 + 1)) ∧ (IntKind.i64.wrap (x12.2.1 + 1)) ≤ (((if (IntKind.i64.wrap ((a0.length:Int) + 1)) < a2 then (IntKind.i64.wrap ((a0.length:Int) + 1)) else a2).toNat:Nat):Int)) <| req (0 + ((IntKind.i64.wrap (x12.2.1 + 1)).toNat) ≤ (x12.2.2.set x12.2.1.toNat x12.1).length) (some (((x12.2.2.set x12.2.1.toNat x12.1).drop 0).take ((IntKind.i64.wrap (x12.2.1 + 1)).toNat)))
noncomputable def strings_SplitN_02b (a0:List UInt8) (a1:Int):Option (List (List UInt8)):=(strings_genSplit_92d a0 0 a1).bind fun x1=>some x1
noncomputable def script_choice (a0:List UInt8) (a1:List UInt8) (a2:List UInt8):Option ((Int × List UInt8) × Option Nat):=(bif (a0:List UInt8) == a1 then some true else some false:Option (Bool)).bind fun x1=>bif x1 then some ((0,[]),none) else (bif (a0:List UInt8) == a2 then some true else some false:Option (Bool)).bind fun x2=>bif x2 then some ((1,[]),none) else some ((0,[]),(some 1))
noncomputable def script_plain (a0:UInt8):Option (Bool):=bif decide ((a0.toNat:Int) ≥ 32) then bif decide ((a0.toNat:Int) ≤ 126) then bif (a0.toNat:Int) != 34 then some ((a0.toNat:Int) != 92) else some false else some false else some false
noncomputable def script_text_loop1 (a0:List UInt8) (x31:Int × List UInt8):Option (((Option Nat) ⊕ (List UInt8)) ⊕ (Int × List UInt8)):=(bif decide (x31.1 < ((sub a0 1 ((IntKind.i64.wrap ((a0.length:Int) - 1)).toNat)).length:Int)) then some true else some false:Option (Bool)).bind fun x32=>bif x32 then (getI (sub a0 1 ((IntKind.i64.wrap ((a0.length:Int) - 1)).toNat)) x31.1).bind fun x33=>(((script_plain x33).bind fun x46=>bif !x46 then some true else some false:Option (Bool)).bind fun x47=>bif x47 then (bif (x33.toNat:Int) != 92 then some true else bif decide ((IntKind.i64.wrap (x31.1 + 2)) ≥ ((sub a0 1 ((IntKind.i64.wrap ((a0.length:Int) - 1)).toNat)).length:Int)) then some true else some false:Option (Bool)).bind fun x48=>bif x48 then some (.inr (.inl (.inl (some 0)))) else (getI (sub a0 1 ((IntKind.i64.wrap ((a0.length:Int) - 1)).toNat)) (IntKind.i64.wrap (x31.1 + 1))).bind fun x49=>(idxB lit_4032a x49).bind fun x50=>(getI (sub a0 1 ((IntKind.i64.wrap ((a0.length:Int) - 1)).toNat)) (IntKind.i64.wrap (x31.1 + 2))).bind fun x51=>(idxB lit_4032a x51).bind fun x52=>(bif decide (x50 < 0) then some true else bif decide (x52 < 0) then some true else (script_plain (UInt8.ofInt (IntKind.u8.wrap (IntKind.i64.wrap ((IntKind.i64.wrap ((16:Int) * x50)) + x52))))).bind fun x54=>bif x54 then some true else some false:Option (Bool)).bind fun x55=>bif x55 then some (.inr (.inl (.inl (some 0)))) else some (.inl (IntKind.i64.wrap (x31.1 + 2),UInt8.ofInt (IntKind.u8.wrap (IntKind.i64.wrap ((IntKind.i64.wrap ((16:Int) * x50)) + x52))))) else some (.inl (x31.1,x33)):Option ((Int × UInt8) ⊕ (((Option Nat) ⊕ (List UInt8)) ⊕ (Int × List UInt8)))).bind fun o=>match o with | .inr r=>some r | .inl x56=>req (x31.2.length = x31.2.length) <| req ((x31.2 ++ [x56.2]).length * 1 ≤ maxBy) <| req ((x31.2 ++ [x56.2]).length = (x31.2 ++ [x56.2]).length) (some (.inr (IntKind.i64.wrap (x56.1 + 1),x31.2 ++ [x56.2]))) else req (x31.2.length = x31.2.length) (some (.inl (.inr x31.2)))
noncomputable def script_text (a0:List UInt8) (a1:Int) (a2:Int):Option ((Int × List UInt8) × Option Nat):=(bif decide ((a0.length:Int) < 2) then some true else (getI a0 0).bind fun x3=>bif (x3.toNat:Int) != 34 then some true else (getI a0 (IntKind.i64.wrap ((a0.length:Int) - 1))).bind fun x4=>bif (x4.toNat:Int) != 34 then some true else some false:Option (Bool)).bind fun x5=>bif x5 then some ((0,[]),(some 0)) else req (0 ≤ (1:Int) ∧ (1:Int) ≤ (IntKind.i64.wrap ((a0.length:Int) - 1)) ∧ (IntKind.i64.wrap ((a0.length:Int) - 1)) ≤ ((a0.length:Nat):Int)) <| (loopO (script_text_loop1 a0) (0,[])).bind fun o=>match o with | .inl x57=>some ((0,[]),x57) | .inr x58=>(bif decide (((x58.length:Nat):Int) < a1) then some true else bif decide (((x58.length:Nat):Int) > a2) then some true else some false:Option (Bool)).bind fun x59=>bif x59 then some ((0,[]),(some 0)) else req (x58.length = x58.length) (some ((0,x58),none))
noncomputable def script_bounds (a0:UInt8):Option (Int × Int):=(bif (a0.toNat:Int) == 73 then some true else some false:Option (Bool)).bind fun x1=>bif x1 then some (1,8) else (bif (a0.toNat:Int) == 87 then some true else some false:Option (Bool)).bind fun x2=>bif x2 then some (1,1000) else (bif (a0.toNat:Int) == 78 then some true else some false:Option (Bool)).bind fun x3=>bif x3 then some (1,10000) else (bif (a0.toNat:Int) == 80 then some true else some false:Option (Bool)).bind fun x4=>bif x4 then some (0,1073741824) else (bif (a0.toNat:Int) == 88 then some true else some false:Option (Bool)).bind fun x5=>bif x5 then some (1,255) else some (0,65535)
noncomputable def script_number_loop1 (a0:List UInt8) (x12:Int × Int):Option (((Option Nat) ⊕ (Int)) ⊕ (Int × Int)):=(bif decide (x12.2 < (a0.length:Int)) then some true else some false:Option (Bool)).bind fun x13=>bif x13 then ((getI a0 x12.2).bind fun x16=>bif decide ((x16.toNat:Int) < 48) then some true else (getI a0 x12.2).bind fun x17=>bif decide ((x17.toNat:Int) > 57) then some true else some false:Option (Bool)).bind fun x18=>bif x18 then some (.inl (.inl (some 4))) else (getI a0 x12.2).bind fun x19=>some (.inr (IntKind.i64.wrap ((IntKind.i64.wrap ((10:Int) * x12.1)) + (IntKind.i64.wrap ((UInt8.ofInt (IntKind.u8.wrap ((x19.toNat:Int) - 48))).toNat:Int))),IntKind.i64.wrap (x12.2 + 1))) else some (.inl (.inr x12.1))
noncomputable def script_number (a0:List UInt8) (a1:UInt8):Option ((Int × List UInt8) × Option Nat):=(script_bounds a1).bind fun x1=>(bif (a0:List UInt8) == [] then some true else bif decide ((a0.length:Int) > 10) then some true else bif decide ((a0.length:Int) > 1) then (getI a0 0).bind fun x3=>bif (x3.toNat:Int) == 48 then some true else some false else some false:Option (Bool)).bind fun x4=>bif x4 then some ((0,[]),(some 4)) else (loopO (script_number_loop1 a0) (0,0)).bind fun o=>match o with | .inl x20=>some ((0,[]),x20) | .inr x21=>(bif decide (x21 < x1.1) then some true else bif decide (x21 > x1.2) then some true else some false:Option (Bool)).bind fun x22=>bif x22 then some ((0,[]),(some 4)) else some ((x21,[]),none)
noncomputable def script_read (a0:List UInt8) (a1:UInt8):Option ((Int × List UInt8) × Option Nat):=(bif (a1.toNat:Int) == 82 then some true else some false:Option (Bool)).bind fun x1=>bif x1 then (script_choice a0 [119,97,116,99,104] [119,114,105,116,101]).bind fun x2=>some (x2.1,x2.2) else (bif (a1.toNat:Int) == 83 then some true else some false:Option (Bool)).bind fun x3=>bif x3 then (script_choice a0 [104,117,98] [118,105,101,119]).bind fun x4=>some (x4.1,x4.2) else (bif (a1.toNat:Int) == 84 then some true else some false:Option (Bool)).bind fun x5=>bif x5 then (script_text a0 0 1000).bind fun x6=>some (x6.1,x6.2) else (bif (a1.toNat:Int) == 75 then some true else some false:Option (Bool)).bind fun x7=>bif x7 then (script_text a0 1 16).bind fun x8=>some (x8.1,x8.2) else (script_number a0 a1).bind fun x9=>some (x9.1,x9.2)
noncomputable def script_event (a0:List UInt8) (a1:List (Int × List UInt8)):Option ((Int × K5605.T)):=(getI a1 0).bind fun x1=>(((bif (a0:List UInt8) == [106,111,105,110] then some true else some false:Option (Bool)).bind fun x31=>bif x31 then some x31 else bif (a0:List UInt8) == [114,111,108,101] then some true else some false:Option (Bool)).bind fun x32=>bif x32 then (getI a1 1).bind fun x33=>(bif (a0:List UInt8) == [114,111,108,101] then some true else some false:Option (Bool)).bind fun x34=>bif x34 then some (3,x1.1,0,0,IntKind.i64.wrap ((1:Int) + x33.1),0,[],0,0,[]) else some (1,x1.1,0,0,IntKind.i64.wrap ((1:Int) + x33.1),0,[],0,0,[]) else (bif (a0:List UInt8) == [108,101,97,118,101] then some true else some false:Option (Bool)).bind fun x35=>bif x35 then some (2,x1.1,0,0,0,0,[],0,0,[]) else (bif (a0:List UInt8) == [97,115,107] then some true else some false:Option (Bool)).bind fun x36=>bif x36 then some (5,x1.1,0,0,0,3,[],0,0,[]) else (bif (a0:List UInt8) == [102,114,101,101] then some true else some false:Option (Bool)).bind fun x37=>bif x37 then some (5,x1.1,0,0,0,4,[],0,0,[]) else (bif (a0:List UInt8) == [107,101,121,115] then some true else some false:Option (Bool)).bind fun x38=>bif x38 then (getI a1 1).bind fun x39=>some (5,x1.1,0,0,0,1,x39.2,0,0,[]) else (bif (a0:List UInt8) == [115,105,122,101] then some true else some false:Option (Bool)).bind fun x40=>bif x40 then (getI a1 1).bind fun x41=>(getI a1 2).bind fun x42=>some (5,x1.1,0,0,0,2,[],x41.1,x42.1,[]) else (bif (a0:List UInt8) == [111,117,116] then some true else some false:Option (Bool)).bind fun x43=>bif x43 then (getI a1 0).bind fun x44=>some (4,x1.1,0,0,0,0,[],0,0,x44.2) else (bif (a0:List UInt8) == [116,105,99,107] then some true else some false:Option (Bool)).bind fun x45=>bif x45 then (getI a1 0).bind fun x46=>some (6,0,x46.1,0,0,0,[],0,0,[]) else (bif (a0:List UInt8) == lit_45a69 then some true else some false:Option (Bool)).bind fun x47=>bif x47 then (getI a1 0).bind fun x48=>some (7,0,x48.1,0,0,0,[],0,0,[]) else (bif (a0:List UInt8) == [115,112,111,105,108] then some true else some false:Option (Bool)).bind fun x49=>bif x49 then (getI a1 0).bind fun x50=>(getI a1 1).bind fun x51=>some (8,0,x50.1,x51.1,0,0,[],0,0,[]) else (bif (a0:List UInt8) == [109,111,118,101] then some true else some false:Option (Bool)).bind fun x52=>bif x52 then (getI a1 1).bind fun x53=>some (9,x1.1,x53.1,0,0,0,[],0,0,[]) else (bif (a0:List UInt8) == [102,111,114,103,101] then some true else some false:Option (Bool)).bind fun x54=>bif x54 then (getI a1 1).bind fun x55=>(getI a1 2).bind fun x56=>(getI a1 3).bind fun x57=>some (10,x1.1,x55.1,x56.1,0,0,[],0,0,x57.2) else some (0,x1.1,0,0,0,0,[],0,0,[]):Option (Int × Int × Int × Int × Int × Int × List UInt8 × Int × Int × List UInt8)).bind fun x58=>some (x58.1,x58.2.1,x58.2.2.1,x58.2.2.2.1,x58.2.2.2.2.1,(x58.2.2.2.2.2.1,x58.2.2.2.2.2.2.1,x58.2.2.2.2.2.2.2.1,x58.2.2.2.2.2.2.2.2.1),x58.2.2.2.2.2.2.2.2.2)
noncomputable def script_parse_loop1 (x2:List UInt8) (x4:List (List UInt8)) (x11:Int × (List (Int × List UInt8))):Option (((Option Nat) ⊕ ((List (Int × List UInt8)))) ⊕ (Int × (List (Int × List UInt8)))):=(bif decide (x11.1 < (x2.length:Int)) then some true else some false:Option (Bool)).bind fun x12=>bif x12 then (getI x4 x11.1).bind fun x13=>(getI x2 x11.1).bind fun x14=>(script_read x13 x14).bind fun x15=>(bif !x15.2.isNone then some true else some false:Option (Bool)).bind fun x16=>bif x16 then some (.inl (.inl x15.2)) else req (x11.2.length = x11.2.length) <| req ((x11.2 ++ [x15.1]).length * 32 ≤ maxBy) <| req ((x11.2 ++ [x15.1]).length = (x11.2 ++ [x15.1]).length) (some (.inr (IntKind.i64.wrap (x11.1 + 1),x11.2 ++ [x15.1]))) else req (x11.2.length = x11.2.length) (some (.inl (.inr x11.2)))
noncomputable def script_parse (a0:List UInt8):Option ((Int × K5605.T) × Option Nat):=(strings_Cut_1a5 a0).bind fun x1=>(script_form x1.1).bind fun x2=>(bif (x2:List UInt8) == [] then some true else bif !x1.2.2 then some true else some false:Option (Bool)).bind fun x3=>bif x3 then some ((0,0,0,0,0,(0,[],0,0),[]),(some 1)) else (strings_SplitN_02b x1.2.1 (x2.length:Int)).bind fun x4=>(bif decide ((x4.length:Int) < (x2.length:Int)) then some true else some false:Option (Bool)).bind fun x5=>bif x5 then some ((0,0,0,0,0,(0,[],0,0),[]),(some 1)) else (loopO (script_parse_loop1 x2 x4) (0,[])).bind fun o=>match o with | .inl x17=>some ((0,0,0,0,0,(0,[],0,0),[]),x17) | .inr x18=>req (x18.length = x18.length) <| (script_event x1.1 x18).bind fun x19=>some (x19,none)
noncomputable def script_in (a0:Option Nat) (a1:Int):Option ((Option (Int × Option Nat))):=(asE0).bind fun _=>some (some (a1,a0))
noncomputable def script_Parse_loop1  (x12:List UInt8 × Int × (List (Int × K5605.T))):Option ((((Option (Int × Option Nat))) ⊕ ((List (Int × K5605.T)))) ⊕ (List UInt8 × Int × (List (Int × K5605.T)))):=(bif !((x12.1:List UInt8) == []) then some true else some false:Option (Bool)).bind fun x13=>bif x13 then (strings_Cut_cc6 x12.1).bind fun x14=>((bif decide ((x14.1.length:Int) > 3100) then some true else bif decide (x12.2.1 > 1000) then some true else some false:Option (Bool)).bind fun x18=>bif x18 then req (x12.2.2.length = x12.2.2.length) (some ((some 3),x12.2.2)) else (bif !x14.2.2 then some true else some false:Option (Bool)).bind fun x19=>bif x19 then req (x12.2.2.length = x12.2.2.length) (some ((some 2),x12.2.2)) else (script_parse x14.1).bind fun x20=>req (x12.2.2.length = x12.2.2.length) <| req ((x12.2.2 ++ [x20.1]).length * 112 ≤ maxBy) <| req ((x12.2.2 ++ [x20.1]).length = (x12.2.2 ++ [x20.1]).length) (some (x20.2,x12.2.2 ++ [x20.1])):Option (Option Nat × (List (Int × K5605.T)))).bind fun x21=>(bif !x21.1.isNone then some true else some false:Option (Bool)).bind fun x22=>bif x22 then (script_in x21.1 x12.2.1).bind fun x23=>some (.inl (.inl x23)) else req (x21.2.length = x21.2.length) (some (.inr (x14.2.1,IntKind.i64.wrap (x12.2.1 + 1),x21.2))) else req (x12.2.2.length = x12.2.2.length) (some (.inl (.inr x12.2.2)))
noncomputable def script_Parse (a0:List UInt8):Option ((List (Int × K5605.T)) × (Option (Int × Option Nat))):=(loopO (script_Parse_loop1) (a0,1,[])).bind fun o=>match o with | .inl x24=>some (([]:List (Int × K5605.T)),x24) | .inr x25=>req (x25.length = x25.length) (some (x25,none))
noncomputable def oriellaw34_fault (a0:Option (Int × Option Nat)):Option (Int × Int):=(bif a0.isNone then some (true,none) else (asFa a0).bind fun x2=>bif !x2.1 then some (true,x2.2) else bif x2.2.isNone then some (true,x2.2) else some (false,x2.2):Option (Bool × (Option (Int × Option Nat)))).bind fun x3=>bif x3.1 then some (0,0) else (((isF a0 (some 3)).bind fun x20=>bif x20 then some true else some false:Option (Bool)).bind fun x21=>bif x21 then some 1 else ((isF a0 (some 1)).bind fun x23=>bif x23 then some true else some false:Option (Bool)).bind fun x24=>bif x24 then some 2 else ((isF a0 (some 4)).bind fun x26=>bif x26 then some true else some false:Option (Bool)).bind fun x27=>bif x27 then some 3 else ((isF a0 (some 0)).bind fun x29=>bif x29 then some true else some false:Option (Bool)).bind fun x30=>bif x30 then some 4 else ((isF a0 (some 2)).bind fun x32=>bif x32 then some true else some false:Option (Bool)).bind fun x33=>bif x33 then some 5 else some 0:Option (Int)).bind fun x34=>(x3.2).bind fun x35=>some (x35.1,x34)
noncomputable def script_quoted_loop1 (a0:List UInt8) (x15:Int × List UInt8):Option (((List UInt8)) ⊕ (Int × List UInt8)):=(bif decide (x15.1 < (a0.length:Int)) then some true else some false:Option (Bool)).bind fun x16=>bif x16 then ((getI a0 x15.1).bind fun x23=>((script_plain x23).bind fun x25=>bif x25 then some true else some false:Option (Bool)).bind fun x26=>bif x26 then req (x15.2.length = x15.2.length) <| req ((x15.2 ++ [x23]).length * 1 ≤ maxBy) <| req ((x15.2 ++ [x23]).length = (x15.2 ++ [x23]).length) (some (x15.2 ++ [x23])) else (getI lit_4032a ((UInt8.ofInt (IntKind.u8.wrap (Int.tdiv (x23.toNat:Int) 16))).toNat:Int)).bind fun x27=>(getI lit_4032a ((UInt8.ofInt (Int.tmod (x23.toNat:Int) 16)).toNat:Int)).bind fun x28=>req (x15.2.length = x15.2.length) <| req ((x15.2 ++ [92,x27,x28]).length * 1 ≤ maxBy) <| req ((x15.2 ++ [92,x27,x28]).length = (x15.2 ++ [92,x27,x28]).length) (some (x15.2 ++ [92,x27,x28])):Option (List UInt8)).bind fun x29=>req (x29.length = x29.length) (some (.inr (IntKind.i64.wrap (x15.1 + 1),x29))) else req (x15.2.length = x15.2.length) (some (.inl x15.2))
noncomputable def script_quoted (a0:List UInt8):Option (List UInt8):=(loopO (script_quoted_loop1 a0) (0,[34])).bind fun x30=>req (x30.length = x30.length) <| req ((x30 ++ [34]).length * 1 ≤ maxBy) <| req ((x30 ++ [34]).length = (x30 ++ [34]).length) <| some (x30 ++ [34])
noncomputable def script_words (a0:Int × K5605.T):Option (List UInt8):=((bif a0.2.2.2.2.1 == 1 then some true else some false:Option (Bool)).bind fun x3=>bif x3 then some ([32,119,97,116,99,104]) else (bif a0.2.2.2.2.1 == 2 then some true else some false:Option (Bool)).bind fun x4=>bif x4 then some ([32,119,114,105,116,101]) else some ([]):Option (List UInt8)).bind fun x5=>(bif a0.1 == 1 then some true else some false:Option (Bool)).bind fun x6=>bif x6 then (itoa a0.2.1).bind fun x7=>req ([106,111,105,110,32].length + x7.length ≤ 9223372036854775807) <| req (([106,111,105,110,32] ++ x7).length + x5.length ≤ 9223372036854775807) <| some (([106,111,105,110,32] ++ x7) ++ x5) else (bif a0.1 == 2 then some true else some false:Option (Bool)).bind fun x8=>bif x8 then (itoa a0.2.1).bind fun x9=>req ([108,101,97,118,101,32].length + x9.length ≤ 9223372036854775807) <| some ([108,101,97,118,101,32] ++ x9) else (bif a0.1 == 3 then some true else some false:Option (Bool)).bind fun x10=>bif x10 then (itoa a0.2.1).bind fun x11=>req ([114,111,108,101,32].length + x11.length ≤ 9223372036854775807) <| req (([114,111,108,101,32] ++ x11).length + x5.length ≤ 9223372036854775807) <| some (([114,111,108,101,32] ++ x11) ++ x5) else (bif a0.1 == 4 then some true else some false:Option (Bool)).bind fun x12=>bif x12 then (script_quoted a0.2.2.2.2.2.2).bind fun x13=>req ([111,117,116,32].length + x13.length ≤ 9223372036854775807) <| some ([111,117,116,32] ++ x13) else (bif a0.1 == 5 then some true else some false:Option (Bool)).bind fun x14=>bif x14 then (bif a0.2.2.2.2.2.1.1 == 1 then some true else some false:Option (Bool)).bind fun x15=>bif x15 then (itoa a0.2.1).bind fun x16=>req ([107,101,121,115,32].length + x16.length ≤ 9223372036854775807) <| req (([107,101,121,115,32] ++ x16).length + [32].length ≤ 9223372036854775807) <| (script_quoted a0.2.2.2.2.2.1.2.1).bind fun x17=>req ((([107,101,121,115,32] ++ x16) ++ [32]).length + x17.length ≤ 9223372036854775807) <| some ((([107,101,121,115,32] ++ x16) ++ [32]) ++ x17) else (bif a0.2.2.2.2.2.1.1 == 2 then some true else some false:Option (Bool)).bind fun x18=>bif x18 then (itoa a0.2.1).bind fun x19=>req ([115,105,122,101,32].length + x19.length ≤ 9223372036854775807) <| req (([115,105,122,101,32] ++ x19).length + [32].length ≤ 9223372036854775807) <| (itoa a0.2.2.2.2.2.1.2.2.1).bind fun x20=>req ((([115,105,122,101,32] ++ x19) ++ [32]).length + x20.length ≤ 9223372036854775807) <| req (((([115,105,122,101,32] ++ x19) ++ [32]) ++ x20).length + [32].length ≤ 9223372036854775807) <| (itoa a0.2.2.2.2.2.1.2.2.2).bind fun x21=>req ((((([115,105,122,101,32] ++ x19) ++ [32]) ++ x20) ++ [32]).length + x21.length ≤ 9223372036854775807) <| some ((((([115,105,122,101,32] ++ x19) ++ [32]) ++ x20) ++ [32]) ++ x21) else (bif a0.2.2.2.2.2.1.1 == 3 then some true else some false:Option (Bool)).bind fun x22=>bif x22 then (itoa a0.2.1).bind fun x23=>req ([97,115,107,32].length + x23.length ≤ 9223372036854775807) <| some ([97,115,107,32] ++ x23) else (itoa a0.2.1).bind fun x24=>req ([102,114,101,101,32].length + x24.length ≤ 9223372036854775807) <| some ([102,114,101,101,32] ++ x24) else (bif a0.1 == 6 then some true else some false:Option (Bool)).bind fun x25=>bif x25 then (itoa a0.2.2.1).bind fun x26=>req ([116,105,99,107,32].length + x26.length ≤ 9223372036854775807) <| some ([116,105,99,107,32] ++ x26) else (bif a0.1 == 7 then some true else some false:Option (Bool)).bind fun x27=>bif x27 then (itoa a0.2.2.1).bind fun x28=>req (lit_b92a4.length + x28.length ≤ 9223372036854775807) <| some (lit_b92a4 ++ x28) else (bif a0.1 == 8 then some true else some false:Option (Bool)).bind fun x29=>bif x29 then (itoa a0.2.2.1).bind fun x30=>req ([115,112,111,105,108,32].length + x30.length ≤ 9223372036854775807) <| req (([115,112,111,105,108,32] ++ x30).length + [32].length ≤ 9223372036854775807) <| (itoa a0.2.2.2.1).bind fun x31=>req ((([115,112,111,105,108,32] ++ x30) ++ [32]).length + x31.length ≤ 9223372036854775807) <| some ((([115,112,111,105,108,32] ++ x30) ++ [32]) ++ x31) else (bif a0.1 == 9 then some true else some false:Option (Bool)).bind fun x32=>bif x32 then (itoa a0.2.1).bind fun x33=>req ([109,111,118,101,32].length + x33.length ≤ 9223372036854775807) <| req (([109,111,118,101,32] ++ x33).length + [32].length ≤ 9223372036854775807) <| (itoa a0.2.2.1).bind fun x34=>req ((([109,111,118,101,32] ++ x33) ++ [32]).length + x34.length ≤ 9223372036854775807) <| some ((([109,111,118,101,32] ++ x33) ++ [32]) ++ x34) else (bif a0.2.2.2.1 == 0 then some true else some false:Option (Bool)).bind fun x35=>bif x35 then (itoa a0.2.1).bind fun x36=>req ([102,111,114,103,101,32].length + x36.length ≤ 9223372036854775807) <| req (([102,111,114,103,101,32] ++ x36).length + [32].length ≤ 9223372036854775807) <| (itoa a0.2.2.1).bind fun x37=>req ((([102,111,114,103,101,32] ++ x36) ++ [32]).length + x37.length ≤ 9223372036854775807) <| req (((([102,111,114,103,101,32] ++ x36) ++ [32]) ++ x37).length + [32,104,117,98,32].length ≤ 9223372036854775807) <| (script_quoted a0.2.2.2.2.2.2).bind fun x38=>req ((((([102,111,114,103,101,32] ++ x36) ++ [32]) ++ x37) ++ [32,104,117,98,32]).length + x38.length ≤ 9223372036854775807) <| some ((((([102,111,114,103,101,32] ++ x36) ++ [32]) ++ x37) ++ [32,104,117,98,32]) ++ x38) else (itoa a0.2.1).bind fun x39=>req ([102,111,114,103,101,32].length + x39.length ≤ 9223372036854775807) <| req (([102,111,114,103,101,32] ++ x39).length + [32].length ≤ 9223372036854775807) <| (itoa a0.2.2.1).bind fun x40=>req ((([102,111,114,103,101,32] ++ x39) ++ [32]).length + x40.length ≤ 9223372036854775807) <| req (((([102,111,114,103,101,32] ++ x39) ++ [32]) ++ x40).length + [32,118,105,101,119,32].length ≤ 9223372036854775807) <| (script_quoted a0.2.2.2.2.2.2).bind fun x41=>req ((((([102,111,114,103,101,32] ++ x39) ++ [32]) ++ x40) ++ [32,118,105,101,119,32]).length + x41.length ≤ 9223372036854775807) <| some ((((([102,111,114,103,101,32] ++ x39) ++ [32]) ++ x40) ++ [32,118,105,101,119,32]) ++ x41)
noncomputable def script_same (a0:Int × K5605.T) (a1:Int × K5605.T):Option (Bool):=bif a0.1 == a1.1 then bif a0.2.1 == a1.2.1 then bif a0.2.2.1 == a1.2.2.1 then bif a0.2.2.2.1 == a1.2.2.2.1 then bif a0.2.2.2.2.1 == a1.2.2.2.2.1 then bif (a0.2.2.2.2.2.2:List UInt8) == a1.2.2.2.2.2.2 then bif a0.2.2.2.2.2.1.1 == a1.2.2.2.2.2.1.1 then bif (a0.2.2.2.2.2.1.2.1:List UInt8) == a1.2.2.2.2.2.1.2.1 then bif a0.2.2.2.2.2.1.2.2.1 == a1.2.2.2.2.2.1.2.2.1 then some (a0.2.2.2.2.2.1.2.2.2 == a1.2.2.2.2.2.1.2.2.2) else some false else some false else some false else some false else some false else some false else some false else some false else some false
noncomputable def script_Line (a0:Int × K5605.T):Option (List UInt8 × Bool):=(bif decide ((a0.2.2.2.2.2.2.length:Int) > 1000) then some true else bif decide ((a0.2.2.2.2.2.1.2.1.length:Int) > 16) then some true else some false:Option (Bool)).bind fun x1=>bif x1 then some ([],false) else (script_words a0).bind fun x2=>(script_parse x2).bind fun x3=>(bif !x3.2.isNone then some true else (script_same x3.1 a0).bind fun x5=>bif !x5 then some true else some false:Option (Bool)).bind fun x6=>bif x6 then some ([],false) else some (x2,true)
noncomputable def script_Fault_Error (a0:Option (Int × Option Nat)):Option (List UInt8):=(bif a0.isNone then some true else (a0).bind fun x2=>bif x2.2.isNone then some true else some false:Option (Bool)).bind fun x3=>bif x3 then some ([]) else (((a0).bind fun x31=>(isE x31.2 (some 3)).bind fun x32=>bif x32 then some true else some false:Option (Bool)).bind fun x33=>bif x33 then some lit_5cf80 else ((a0).bind fun x36=>(isE x36.2 (some 1)).bind fun x37=>bif x37 then some true else some false:Option (Bool)).bind fun x38=>bif x38 then some ([119,111,114,100]) else ((a0).bind fun x41=>(isE x41.2 (some 4)).bind fun x42=>bif x42 then some true else some false:Option (Bool)).bind fun x43=>bif x43 then some ([110,117,109,98,101,114]) else ((a0).bind fun x46=>(isE x46.2 (some 0)).bind fun x47=>bif x47 then some true else some false:Option (Bool)).bind fun x48=>bif x48 then some ([116,101,120,116]) else ((a0).bind fun x51=>(isE x51.2 (some 2)).bind fun x52=>bif x52 then some true else some false:Option (Bool)).bind fun x53=>bif x53 then some lit_28e3a else some ([]):Option (List UInt8)).bind fun x54=>(a0).bind fun x55=>(itoa x55.1).bind fun x56=>req ([108,105,110,101,32].length + x56.length ≤ 9223372036854775807) <| req (([108,105,110,101,32] ++ x56).length + [58,32].length ≤ 9223372036854775807) <| req ((([108,105,110,101,32] ++ x56) ++ [58,32]).length + x54.length ≤ 9223372036854775807) <| some ((([108,105,110,101,32] ++ x56) ++ [58,32]) ++ x54)
noncomputable def orielref12_Digits_loop1  (x2:Int × List UInt8):Option (((Int × List UInt8)) ⊕ (Int × List UInt8)):=(bif decide (x2.1 > 9) then some true else some false:Option (Bool)).bind fun x3=>bif x3 then req ([UInt8.ofInt (IntKind.u8.wrap (IntKind.i64.wrap ((48:Int) + (Int.tmod x2.1 10))))].length + x2.2.length ≤ 9223372036854775807) <| some (.inr (IntKind.i64.wrap (Int.tdiv x2.1 10),([UInt8.ofInt (IntKind.u8.wrap (IntKind.i64.wrap ((48:Int) + (Int.tmod x2.1 10))))] ++ x2.2))) else some (.inl (x2.1,x2.2))
noncomputable def orielref12_Digits (a0:Int):Option (List UInt8):=(loopO (orielref12_Digits_loop1) (a0,[])).bind fun x4=>req ([UInt8.ofInt (IntKind.u8.wrap (IntKind.i64.wrap ((48:Int) + x4.1)))].length + x4.2.length ≤ 9223372036854775807) <| some ([UInt8.ofInt (IntKind.u8.wrap (IntKind.i64.wrap ((48:Int) + x4.1)))] ++ x4.2)
noncomputable def orielref34_What (a0:Int):Option (List UInt8):=bif a0 == 0 then some ([]) else bif a0 == 1 then some lit_5cf80 else bif a0 == 2 then some ([119,111,114,100]) else bif a0 == 3 then some ([110,117,109,98,101,114]) else bif a0 == 4 then some ([116,101,120,116]) else bif a0 == 5 then some lit_28e3a else none
noncomputable def oriellaw34_told (a0:Option (Int × Option Nat)):Option (Bool):=((asFa a0).bind fun x2=>bif !x2.1 then some (true,x2.2) else bif x2.2.isNone then some (true,x2.2) else some (false,x2.2):Option (Bool × (Option (Int × Option Nat)))).bind fun x3=>bif x3.1 then some false else (oriellaw34_fault a0).bind fun x4=>bif decide (x4.1 ≥ 1) then (script_Fault_Error x3.2).bind fun x5=>(orielref12_Digits x4.1).bind fun x6=>req ([108,105,110,101,32].length + x6.length ≤ 9223372036854775807) <| req (([108,105,110,101,32] ++ x6).length + [58,32].length ≤ 9223372036854775807) <| (orielref34_What x4.2).bind fun x7=>req ((([108,105,110,101,32] ++ x6) ++ [58,32]).length + x7.length ≤ 9223372036854775807) <| some ((x5:List UInt8) == ((([108,105,110,101,32] ++ x6) ++ [58,32]) ++ x7)) else some false
noncomputable def oriellaw34_known_raw :Option (Bool):=(script_Parse lit_70b7c).bind fun x1=>(script_Parse lit_1d2e6).bind fun x2=>(script_Parse lit_7c404).bind fun x3=>(oriellaw34_fault x2.2).bind fun x4=>(oriellaw34_fault x3.2).bind fun x5=>(script_Line (6,0,10,0,0,(0,[],0,0),[])).bind fun x6=>bif x1.2.isNone then bif (x1.1.length:Int) == 3 then (getI x1.1 1).bind fun x7=>bif (x7.2.2.2.2.2.2:List UInt8) == [104,105,13] then bif x4.1 == 1 then bif x4.2 == 3 then bif x5.1 == 2 then bif x5.2 == 4 then bif x6.2 then bif (x6.1:List UInt8) == lit_4b1dc then (oriellaw34_told x2.2).bind fun x8=>bif x8 then (oriellaw34_told x3.2).bind fun x9=>some x9 else some false else some false else some false else some false else some false else some false else some false else some false else some false else some false
noncomputable def oriellaw34_known :Option (Bool):=some true
theorem oriellaw34_known_law  {v:(Bool)} (h:oriellaw34_known  = some v):oriellaw34_known_raw  = some v:=Eq.trans (by kernel_rfl:oriellaw34_known_raw = some true) h
end Go.SH
namespace Go.SH
variable [SentA]
theorem Pure.of_calls {E:Env} {f:FuncId} {args:List PV} {v:PV} (h:∀ (A:Nat → Prop) w σ (cargs:List Value),cargs.length = args.length → (∀ (i:Nat) (x:PV) (u:Value),args[i]? = some x → cargs[i]? = some u → VR w σ (avo A σ []) x u) →
    (∀ g cells,lget E.G g = some cells → VR w σ (avo A σ []) (.rop cells 0) (.pointer (some ⟨g,0,none⟩))) →
    Calls E.P f cargs.toArray w fun e w'=>∃ c,e = .returned c ∧ VR w' sig0 (avo A sig0 []) v c ∧ w.heap.size ≤ w'.heap.size ∧ (∀ β,β < w.heap.size → w'.heap[β]? = w.heap[β]?) ∧ (w'.os = w.os ∧ w'.output = w.output ∧ w'.tape = w.tape)):Pure E f args v:=by
  intro A w σ cargs hl hv hbr hg
  refine (h A w σ cargs hl hv hg).mono fun e w' ⟨c,he,hvr,hs,hh,ho⟩=>⟨v,c,[],sig0,he,⟨rfl,rfl⟩,hvr,BR0 fun β hA=>Nat.lt_of_lt_of_le (hbr.lo β hA).1 hs,⟨hs,fun l y hk=>absurd rfl hk,fun β hb hn=>⟨avz,hh β hb⟩,ho,fun hk=>absurd rfl hk⟩⟩
theorem VR.int_inv {w:World} {σ:Sig} {av:Nat → Prop} {k:IntKind} {n:Int} {v:Value} (h:VR w σ av (.int k n) v):v = .int k n:=by cases h;rfl
theorem VR.str_inv {w:World} {σ:Sig} {av:Nat → Prop} {l:List UInt8} {v:Value} (h:VR w σ av (.str l) v):v = .string ⟨⟨l⟩⟩:=by cases h;rfl
theorem VR.ev_inv {w:World} {σ:Sig} {av:Nat → Prop} {T:TypeId} {o:Option Addr} {v:Value} (h:VR w σ av (.ev T o) v):v = evV T o ∧ ∀ a,o = some a → EvA w av a:=by cases h with | ev _ _ h=>exact ⟨rfl,h⟩
/-- What a block's first cell is, where the block is known. -/
theorem xc_cell {w:World} {σ:Sig} {av:Nat → Prop} {g:Nat} {cs:List Value} (h:VR w σ av (.rop [.xc g cs] 0) (.pointer (some ⟨g,0,none⟩))):∃ T fr,w.heap[g]? = some (.cells cs.toArray T fr):=by
  generalize hv:Value.pointer (some ⟨g,0,none⟩) = v at h
  cases h with
  | @rop _ _ β add cs' him hl hcv=>
    simp at hl
    obtain ⟨v0,e⟩:∃ v0,cs'[0]? = some v0:=⟨cs'[0],List.getElem?_eq_getElem (by omega)⟩
    have:=hcv 0 (.xc g cs) v0 rfl e
    cases this with
    | xc _ _ T fr _ _ _ hh=>exact ⟨T,fr,hh⟩
end Go.SH
namespace Go.Proofs
open Go.Shelf
def Tryd.lays137_ren:Go.Shelf.Ren:=⟨fun | 137=>82 | 217=>75 | 266=>89 | n=>n,fun | 9=>9 | 5=>5 | 3=>3 | n=>n,fun | n=>n⟩
theorem Tryd.lays137:Go.Proofs.Lays.n137 Tryd.prog Tryd.lays137_ren:={
  mixed:=by kernel_rfl
  f137:=Tryd.func82.trans (congrArg some (by kernel_rfl))
  f217:=Tryd.func75.trans (congrArg some (by kernel_rfl))
  f266:=Tryd.func89.trans (congrArg some (by kernel_rfl))
  t3:=Tryd.underlying3
  a3:=Tryd.isAgg3
  z3:=Tryd.sizeOf3
  v3:=Tryd.zeroValue3
  t5:=Tryd.underlying5
  a5:=Tryd.isAgg5
  z5:=Tryd.sizeOf5
  v5:=Tryd.zeroValue5
  t9:=Tryd.underlying9
  a9:=Tryd.isAgg9
  z9:=Tryd.sizeOf9
  v9:=Tryd.zeroValue9 }
open Go.RowKit in
theorem Tryd.strings_IndexByte (s:ByteArray) (c:Int) (w:World) :
    Calls Tryd.prog 82 #[.string s,.int .u8 c] w fun e w'=>e = .returned (.int .i64 (Lib.indexByte s.data.toList c.toNat.toUInt8)) ∧ w' = w:=Any.strings_IndexByte Tryd.lays137 s c w
def Tryd.laysM171_ren:Go.Shelf.Ren:=⟨fun | 171=>32 | 243=>58 | 246=>72 | 283=>85 | 284=>86 | 285=>87 | 286=>88 | 129=>95 | 317=>94 | 318=>96 | 319=>97 | 320=>98 | 337=>100 | 338=>101 | n=>n,fun | 3=>3 | 9=>9 | 2=>2 | 4=>4 | 171=>154 | 0=>0 | 53=>155 | 37=>50 | 5=>5 | 173=>158 | 212=>166 | 51=>160 | 20=>20 | 213=>167 | 46=>151 | 232=>174 | 233=>175 | n=>n,fun | 17=>7 | 18=>10 | 19=>11 | n=>n⟩
theorem Tryd.laysM171:Go.Proofs.LaysM.n171 Tryd.prog Tryd.laysM171_ren:={
  mixed:=by kernel_rfl
  f129:=Tryd.func95.trans (congrArg some (by kernel_rfl))
  f171:=Tryd.func32.trans (congrArg some (by kernel_rfl))
  f243:=Tryd.func58.trans (congrArg some (by kernel_rfl))
  f246:=Tryd.func72.trans (congrArg some (by kernel_rfl))
  f283:=Tryd.func85.trans (congrArg some (by kernel_rfl))
  f284:=Tryd.func86.trans (congrArg some (by kernel_rfl))
  f285:=Tryd.func87.trans (congrArg some (by kernel_rfl))
  f286:=Tryd.func88.trans (congrArg some (by kernel_rfl))
  f317:=Tryd.func94.trans (congrArg some (by kernel_rfl))
  f318:=Tryd.func96.trans (congrArg some (by kernel_rfl))
  f319:=Tryd.func97.trans (congrArg some (by kernel_rfl))
  f320:=Tryd.func98.trans (congrArg some (by kernel_rfl))
  f337:=Tryd.func100.trans (congrArg some (by kernel_rfl))
  f338:=Tryd.func101.trans (congrArg some (by kernel_rfl))
  t0:=Tryd.underlying0
  a0:=Tryd.isAgg0
  z0:=Tryd.sizeOf0
  v0:=Tryd.zeroValue0
  t2:=Tryd.underlying2
  a2:=Tryd.isAgg2
  z2:=Tryd.sizeOf2
  v2:=Tryd.zeroValue2
  t3:=Tryd.underlying3
  a3:=Tryd.isAgg3
  z3:=Tryd.sizeOf3
  v3:=Tryd.zeroValue3
  t4:=Tryd.underlying4
  a4:=Tryd.isAgg4
  z4:=Tryd.sizeOf4
  v4:=Tryd.zeroValue4
  t5:=Tryd.underlying5
  a5:=Tryd.isAgg5
  z5:=Tryd.sizeOf5
  v5:=Tryd.zeroValue5
  t9:=Tryd.underlying9
  a9:=Tryd.isAgg9
  z9:=Tryd.sizeOf9
  v9:=Tryd.zeroValue9
  t20:=Tryd.underlying20
  a20:=Tryd.isAgg20
  z20:=Tryd.sizeOf20
  v20:=Tryd.zeroValue20
  t37:=Tryd.underlying50
  a37:=Tryd.isAgg50
  z37:=Tryd.sizeOf50
  v37:=Tryd.zeroValue50
  t46:=Tryd.underlying151
  a46:=Tryd.isAgg151
  z46:=Tryd.sizeOf151
  v46:=Tryd.zeroValue151
  t51:=Tryd.underlying160
  a51:=Tryd.isAgg160
  z51:=Tryd.sizeOf160
  v51:=Tryd.zeroValue160
  t53:=Tryd.underlying155
  a53:=Tryd.isAgg155
  z53:=Tryd.sizeOf155
  v53:=Tryd.zeroValue155
  t171:=Tryd.underlying154
  a171:=Tryd.isAgg154
  z171:=Tryd.sizeOf154
  v171:=Tryd.zeroValue154
  t173:=Tryd.underlying158
  a173:=Tryd.isAgg158
  z173:=Tryd.sizeOf158
  v173:=Tryd.zeroValue158
  t212:=Tryd.underlying166
  a212:=Tryd.isAgg166
  z212:=Tryd.sizeOf166
  v212:=Tryd.zeroValue166
  t213:=Tryd.underlying167
  a213:=Tryd.isAgg167
  z213:=Tryd.sizeOf167
  t232:=Tryd.underlying174
  a232:=Tryd.isAgg174
  z232:=Tryd.sizeOf174
  v232:=Tryd.zeroValue174
  t233:=Tryd.underlying175
  a233:=Tryd.isAgg175
  z233:=Tryd.sizeOf175
  v233:=Tryd.zeroValue175
  g17:=by kernel_rfl
  g18:=by kernel_rfl
  g19:=by kernel_rfl
  i0:=by kernel_rfl
  i2:=by kernel_rfl
  i3:=by kernel_rfl
  i4:=by kernel_rfl
  i5:=by kernel_rfl
  i9:=by kernel_rfl
  i20:=by kernel_rfl
  i37:=by kernel_rfl
  i46:=by kernel_rfl
  i51:=by kernel_rfl
  i53:=by kernel_rfl
  i171:=by kernel_rfl
  i173:=by kernel_rfl
  i212:=by kernel_rfl
  i232:=by kernel_rfl
  i233:=by kernel_rfl
  m17:=by kernel_rfl
  m18:=by kernel_rfl
  m19:=by kernel_rfl }
open Go.RowKit Go.Sort Go.Lib in
theorem Tryd.strconv_Itoa (n:Int) (h0:-9223372036854775808 ≤ n) (h1:n ≤ 9223372036854775807) (w:World) (htab:Lib.TabIs Tryd.prog w "internal/strconv.uint64pow10" .u64 Lib.pow10Tab) :
    Calls Tryd.prog 32 #[.int .i64 n] w fun e w'=>e = .returned (.string ⟨(Lib.itoa n).toArray⟩) ∧ ∃ k os,w' = grow (w.drewN k) os:=Any.strconv_Itoa Tryd.laysM171 n h0 h1 w htab
def Tryd.lays217_ren:Go.Shelf.Ren:=⟨fun | 217=>75 | 266=>89 | n=>n,fun | 9=>9 | 5=>5 | 3=>3 | n=>n,fun | n=>n⟩
theorem Tryd.lays217:Go.Proofs.Lays.n217 Tryd.prog Tryd.lays217_ren:={
  mixed:=by kernel_rfl
  f217:=Tryd.func75.trans (congrArg some (by kernel_rfl))
  f266:=Tryd.func89.trans (congrArg some (by kernel_rfl))
  t3:=Tryd.underlying3
  a3:=Tryd.isAgg3
  z3:=Tryd.sizeOf3
  v3:=Tryd.zeroValue3
  t5:=Tryd.underlying5
  a5:=Tryd.isAgg5
  z5:=Tryd.sizeOf5
  v5:=Tryd.zeroValue5
  t9:=Tryd.underlying9
  a9:=Tryd.isAgg9
  z9:=Tryd.sizeOf9
  v9:=Tryd.zeroValue9 }
open Go.RowKit Go.Lib in
theorem Tryd.stringslite_IndexByte (s:ByteArray) (c:Int) (w:World) :
    Calls Tryd.prog 75 #[.string s,.int .u8 c] w fun e w'=>e = .returned (.int .i64 (Lib.indexByte s.data.toList c.toNat.toUInt8)) ∧ w' = w:=Any.stringslite_IndexByte Tryd.lays217 s c w
end Go.Proofs
set_option maxRecDepth 100000
set_option maxHeartbeats 1000000
namespace Go.Proofs.Sp
open Go.RowKit Go.Extern.Stop Go.Stop Go.Extern
theorem isTypeOf (v:Value) (w:World):(callFunc 33 #[.iface 71 v]).run Tryd.prog w = .ok (.value (.iface 121 (.agg #[.pointer (some ⟨12,71,none⟩)]))) w:=by kernel_rfl
theorem isComparable (w:World):(callFunc 126 #[.agg #[.pointer (some ⟨12,71,none⟩)]]).run Tryd.prog w = .ok (.value (.bool true)) w:=by kernel_rfl
theorem isMethodComparable (v:Value) (w:World):(Go.method 303 121 v "Comparable").run Tryd.prog w = .ok (126,v) w:=by kernel_rfl
theorem isComp:(Tryd.prog.info? 71).map (·.comparable) = some true:=by kernel_rfl
theorem isSize:(Tryd.prog.info? 73).map (·.size) = some 1:=by kernel_rfl
theorem noIsE (v:Value) (xT:TypeId) (w:World):(Instr.typeAssert (.iface 71 v) xT 123 true).run Tryd.prog w = .ok (.tuple #[.nilIface,.bool false]) w:=run_typeAssert_lacksB Tryd.underlying123 (by kernel_rfl) (by kernel_rfl) v xT w
theorem noUnwrapE (v:Value) (xT:TypeId) (w:World):(Instr.typeAssert (.iface 71 v) xT 125 true).run Tryd.prog w = .ok (.tuple #[.nilIface,.bool false]) w:=run_typeAssert_lacksB Tryd.underlying125 (by kernel_rfl) (by kernel_rfl) v xT w
theorem noUnwrapsE (v:Value) (xT:TypeId) (w:World):(Instr.typeAssert (.iface 71 v) xT 126 true).run Tryd.prog w = .ok (.tuple #[.nilIface,.bool false]) w:=run_typeAssert_lacksB Tryd.underlying126 (by kernel_rfl) (by kernel_rfl) v xT w
theorem noIsW (v:Value) (xT:TypeId) (w:World):(Instr.typeAssert (.iface 35 v) xT 123 true).run Tryd.prog w = .ok (.tuple #[.nilIface,.bool false]) w:=run_typeAssert_lacksB Tryd.underlying123 (by kernel_rfl) (by kernel_rfl) v xT w
theorem hasUnwrapW (v:Value) (xT:TypeId) (w:World):(Instr.typeAssert (.iface 35 v) xT 125 true).run Tryd.prog w = .ok (.tuple #[.iface 35 v,.bool true]) w:=run_typeAssert_hasB Tryd.underlying125 (by kernel_rfl) v xT w
theorem methodUnwrap (v:Value) (w:World):(Go.method 303 35 v "Unwrap").run Tryd.prog w = .ok (18,v) w:=by kernel_rfl
theorem is_same (a:Addr) (w:World) :
    Calls Tryd.prog 21 #[.iface 71 (.pointer (some a)),.iface 71 (.pointer (some a))] w fun e w'=>e = .returned (.bool true) ∧ w' = w:=by
  obtain ⟨i,hi,hcmp⟩:=Option.map_eq_some_iff.1 isComp
  obtain ⟨j,hj,hjs⟩:=Option.map_eq_some_iff.1 isSize
  have tT:=isTypeOf
  have cT:=isComparable
  have mR:=isMethodComparable
  have heq:=run_eql_iface_ptr_same (P:=Tryd.prog) w a Tryd.underlying25 Tryd.underlying71 hi hcmp hj
  go_enter Tryd.func21,Tryd.ntmps21
  go_wp2
  refine wp_loop_rounds 1 ?_
  rw [rounds_succ]
  go_wp2
  go_ret
  exact ⟨rfl,rfl⟩
theorem is_nil (b:Addr) (w:World) :
    Calls Tryd.prog 21 #[.nilIface,.iface 71 (.pointer (some b))] w fun e w'=>e = .returned (.bool false) ∧ w' = w:=by
  have hn:=run_eql_iface_nil_left (P:=Tryd.prog) w 71 (.pointer (some b)) Tryd.underlying25
  go_enter Tryd.func21,Tryd.ntmps21
  go_wp2
  go_ret
  exact ⟨rfl,rfl⟩
theorem is_other (a b:Addr) (ca cb:Array Value) (ta tb:TypeId) (w:World) (hne:a ≠ b) (ha:w.heap[a.block]? = some (.cells ca ta (0,0))) (hb:w.heap[b.block]? = some (.cells cb tb (0,0))) :
    Calls Tryd.prog 21 #[.iface 71 (.pointer (some a)),.iface 71 (.pointer (some b))] w fun e w'=>e = .returned (.bool false) ∧ w' = w:=by
  obtain ⟨i,hi,hcmp⟩:=Option.map_eq_some_iff.1 isComp
  obtain ⟨j,hj,hjs⟩:=Option.map_eq_some_iff.1 isSize
  have tT:=isTypeOf
  have cT:=isComparable
  have mR:=isMethodComparable
  have nE:=noIsE
  have uE:=noUnwrapE
  have vE:=noUnwrapsE
  have heq:=run_eql_iface_ptr_other (P:=Tryd.prog) w Tryd.underlying25 Tryd.underlying71 hi hcmp hj (by rw [hjs];decide) hne ha hb
  go_enter Tryd.func21,Tryd.ntmps21
  go_wp2
  refine wp_loop_rounds 1 ?_
  rw [rounds_succ]
  go_wp2
  go_ret
  exact ⟨rfl,rfl⟩
theorem is_wrap_same (pb po:Nat) (b:Addr) (w:World) (h1:w.cell? ⟨pb,po + 1,none⟩ = some (.iface 71 (.pointer (some b)))) :
    Calls Tryd.prog 21 #[.iface 35 (.pointer (some ⟨pb,po,none⟩)),.iface 71 (.pointer (some b))] w fun e w'=>e = .returned (.bool true) ∧ w' = w:=by
  obtain ⟨i,hi,hcmp⟩:=Option.map_eq_some_iff.1 isComp
  obtain ⟨j,hj,hjs⟩:=Option.map_eq_some_iff.1 isSize
  have tT:=isTypeOf
  have cT:=isComparable
  have mR:=isMethodComparable
  have nE:=noIsE
  have uE:=noUnwrapE
  have vE:=noUnwrapsE
  have nW:=noIsW
  have uW:=hasUnwrapW
  have mU:=methodUnwrap
  have heq:=run_eql_iface_ptr_same (P:=Tryd.prog) w b Tryd.underlying25 Tryd.underlying71 hi hcmp hj
  have hty:=run_eql_iface_types (P:=Tryd.prog) 35 71 (.pointer (some ⟨pb,po,none⟩)) (.pointer (some b)) Tryd.underlying25 (by decide) w
  go_enter Tryd.func21,Tryd.ntmps21
  go_wp2
  refine wp_loop_rounds 2 ?_
  rw [rounds_succ]
  go_wp2
  rw [rounds_succ]
  go_wp2
  go_ret
  exact ⟨rfl,rfl⟩
theorem is_wrap_nil (pb po:Nat) (b:Addr) (w:World) (h1:w.cell? ⟨pb,po + 1,none⟩ = some .nilIface) :
    Calls Tryd.prog 21 #[.iface 35 (.pointer (some ⟨pb,po,none⟩)),.iface 71 (.pointer (some b))] w fun e w'=>e = .returned (.bool false) ∧ w' = w:=by
  obtain ⟨i,hi,hcmp⟩:=Option.map_eq_some_iff.1 isComp
  obtain ⟨j,hj,hjs⟩:=Option.map_eq_some_iff.1 isSize
  have tT:=isTypeOf
  have cT:=isComparable
  have mR:=isMethodComparable
  have nW:=noIsW
  have uW:=hasUnwrapW
  have mU:=methodUnwrap
  have hty:=run_eql_iface_types (P:=Tryd.prog) 35 71 (.pointer (some ⟨pb,po,none⟩)) (.pointer (some b)) Tryd.underlying25 (by decide) w
  go_enter Tryd.func21,Tryd.ntmps21
  go_wp2
  refine wp_loop_rounds 1 ?_
  rw [rounds_succ]
  go_wp2
  go_ret
  exact ⟨rfl,rfl⟩
theorem is_wrap_other (pb po:Nat) (b a:Addr) (ca cb:Array Value) (ta tb:TypeId) (w:World) (h1:w.cell? ⟨pb,po + 1,none⟩ = some (.iface 71 (.pointer (some a)))) (hne:a ≠ b) (ha:w.heap[a.block]? = some (.cells ca ta (0,0))) (hb:w.heap[b.block]? = some (.cells cb tb (0,0))) :
    Calls Tryd.prog 21 #[.iface 35 (.pointer (some ⟨pb,po,none⟩)),.iface 71 (.pointer (some b))] w fun e w'=>e = .returned (.bool false) ∧ w' = w:=by
  obtain ⟨i,hi,hcmp⟩:=Option.map_eq_some_iff.1 isComp
  obtain ⟨j,hj,hjs⟩:=Option.map_eq_some_iff.1 isSize
  have tT:=isTypeOf
  have cT:=isComparable
  have mR:=isMethodComparable
  have nE:=noIsE
  have uE:=noUnwrapE
  have vE:=noUnwrapsE
  have nW:=noIsW
  have uW:=hasUnwrapW
  have mU:=methodUnwrap
  have heq:=run_eql_iface_ptr_other (P:=Tryd.prog) w Tryd.underlying25 Tryd.underlying71 hi hcmp hj (by rw [hjs];decide) hne ha hb
  have hty:=run_eql_iface_types (P:=Tryd.prog) 35 71 (.pointer (some ⟨pb,po,none⟩)) (.pointer (some b)) Tryd.underlying25 (by decide) w
  go_enter Tryd.func21,Tryd.ntmps21
  go_wp2
  refine wp_loop_rounds 2 ?_
  rw [rounds_succ]
  go_wp2
  rw [rounds_succ]
  go_wp2
  go_ret
  exact ⟨rfl,rfl⟩
end Go.Proofs.Sp
set_option maxRecDepth 100000
set_option maxHeartbeats 4000000
namespace Go.Proofs.Sp
open Go.RowKit Go.Extern.Stop Go.Stop Go.Extern
theorem as_nil (t:Value) (w:World) :
    Calls Tryd.prog 30 #[.nilIface,t] w fun e w'=>e = .returned (.bool false) ∧ w' = w:=by
  go_enter Tryd.func30,Tryd.ntmps30
  go_wp2
  go_ret
  exact ⟨rfl,rfl⟩
theorem valueOf70 (t:Addr) (w:World):(callFunc 54 #[.iface 70 (.pointer (some t))]).run Tryd.prog w
    = .ok (.value (.agg #[.pointer (some ⟨12,70,none⟩),.pointer (some ⟨w.heap.size,0,none⟩),.int .u64 150])) (w.alloc (.cells #[.pointer (some t)] 70)):=by kernel_rfl
theorem type70 (a:Addr) (w:World):(callFunc 55 #[.agg #[.pointer (some ⟨12,70,none⟩),.pointer (some a),.int .u64 150]]).run Tryd.prog w
    = .ok (.value (.iface 121 (.agg #[.pointer (some ⟨12,70,none⟩)]))) w:=by kernel_rfl
theorem methodKind (h:Value) (w:World):(Go.method 303 121 (.agg #[h]) "Kind").run Tryd.prog w = .ok (116,h) w:=by kernel_rfl
theorem kind70 (w:World):(callFunc 116 #[.pointer (some ⟨12,70,none⟩)]).run Tryd.prog w = .ok (.value (.int .u8 22)) w:=by kernel_rfl
theorem kind35 (w:World):(callFunc 116 #[.pointer (some ⟨12,35,none⟩)]).run Tryd.prog w = .ok (.value (.int .u8 22)) w:=by kernel_rfl
theorem methodElem (h:Value) (w:World):(Go.method 303 121 (.agg #[h]) "Elem").run Tryd.prog w = .ok (127,.agg #[h]) w:=by kernel_rfl
theorem methodImplements (h:Value) (w:World):(Go.method 303 121 (.agg #[h]) "Implements").run Tryd.prog w = .ok (128,.agg #[h]) w:=by kernel_rfl
theorem methodAssignableTo (h:Value) (w:World):(Go.method 303 121 (.agg #[h]) "AssignableTo").run Tryd.prog w = .ok (125,.agg #[h]) w:=by kernel_rfl
theorem elem70 (w:World):(callFunc 127 #[.agg #[.pointer (some ⟨12,70,none⟩)]]).run Tryd.prog w = .ok (.value (.iface 121 (.agg #[.pointer (some ⟨12,35,none⟩)]))) w:=by kernel_rfl
theorem implements35 (w:World):(callFunc 128 #[.agg #[.pointer (some ⟨12,35,none⟩)],.iface 121 (.agg #[.pointer (some ⟨12,25,none⟩)])]).run Tryd.prog w = .ok (.value (.bool true)) w:=by kernel_rfl
theorem typeOf35 (v:Value) (w:World):(callFunc 33 #[.iface 35 v]).run Tryd.prog w = .ok (.value (.iface 121 (.agg #[.pointer (some ⟨12,35,none⟩)]))) w:=by kernel_rfl
theorem assignable35 (w:World):(callFunc 125 #[.agg #[.pointer (some ⟨12,35,none⟩)],.iface 121 (.agg #[.pointer (some ⟨12,35,none⟩)])]).run Tryd.prog w = .ok (.value (.bool true)) w:=by kernel_rfl
theorem assignable71 (w:World):(callFunc 125 #[.agg #[.pointer (some ⟨12,71,none⟩)],.iface 121 (.agg #[.pointer (some ⟨12,35,none⟩)])]).run Tryd.prog w = .ok (.value (.bool false)) w:=by kernel_rfl
theorem valueOf35 (e:Addr) (w:World):(callFunc 54 #[.iface 35 (.pointer (some e))]).run Tryd.prog w
    = .ok (.value (.agg #[.pointer (some ⟨12,35,none⟩),.pointer (some ⟨w.heap.size,0,none⟩),.int .u64 150])) (w.alloc (.cells #[.pointer (some e)] 35)):=by kernel_rfl
theorem noAsE (v:Value) (xT:TypeId) (w:World):(Instr.typeAssert (.iface 71 v) xT 144 true).run Tryd.prog w = .ok (.tuple #[.nilIface,.bool false]) w:=run_typeAssert_lacksB Tryd.underlying144 (by kernel_rfl) (by kernel_rfl) v xT w
theorem rlm (z:Sem Value) (f:TypeId → Addr → Nat → Nat → Sem Value) (v:Value) :
    ReflectliteValue.method z f #[v] = (do match ← ReflectliteValue.parts v with | none=>z | some (t,a,fl)=>f t a fl (fl % 32)):=rfl
theorem parts70 (a:Addr) (w:World):(ReflectliteValue.parts (.agg #[.pointer (some ⟨12,70,none⟩),.pointer (some a),.int .u64 150])).run Tryd.prog w = .ok (some (70,a,150)) w:=by kernel_rfl
theorem isNil70 (a p:Addr) (W:World) (ha:W.cell? a = some (.pointer (some p))) :
    (callFunc 56 #[.agg #[.pointer (some ⟨12,70,none⟩),.pointer (some a),.int .u64 150]]).run Tryd.prog W = .ok (.value (.bool false)) W:=by
  have h8:=@run_callFunc_extern Tryd.prog 56 _ (ReflectliteValue.method (ReflectliteValue.valueError "reflectlite.Value.IsNil" 0) ReflectliteValue.isNil) Tryd.func56 (by kernel_rfl) (by kernel_rfl) (by kernel_rfl) (by kernel_rfl)
  rw [h8,rlm]
  simp only [Sem.run_bind,parts70,Result.andThen]
  simp [ReflectliteValue.isNil,loadVar,isAgg,underlying,Tryd.underlying70,ha,Result.andThen]
theorem elemOf70 (w:World):(Rtype.elem? 70).run Tryd.prog w = .ok (some 35) w:=by kernel_rfl
theorem mk35 (p:Addr) (w:World):(ReflectliteValue.mk 35 p ReflectliteValue.flagAddr).run Tryd.prog w = .ok (.agg #[.pointer (some ⟨12,35,none⟩),.pointer (some p),.int .u64 406]) w:=by kernel_rfl
theorem elemV70 (a p:Addr) (W:World) (ha:W.cell? a = some (.pointer (some p))) :
    (callFunc 70 #[.agg #[.pointer (some ⟨12,70,none⟩),.pointer (some a),.int .u64 150]]).run Tryd.prog W
      = .ok (.value (.agg #[.pointer (some ⟨12,35,none⟩),.pointer (some p),.int .u64 406])) W:=by
  have h8:=@run_callFunc_extern Tryd.prog 70 _ (ReflectliteValue.method (ReflectliteValue.valueError "reflectlite.Value.Elem" 0) ReflectliteValue.elem) Tryd.func70 (by kernel_rfl) (by kernel_rfl) (by kernel_rfl) (by kernel_rfl)
  rw [h8,rlm]
  simp only [Sem.run_bind,parts70,Result.andThen]
  simp [ReflectliteValue.elem,loadVar,isAgg,underlying,Tryd.underlying70,ha,Result.andThen,elemOf70,mk35]
theorem rls (v x:Value):ReflectliteValue.set #[v,x] = (do
    let (some (dst,a,fl),some (src,b,_)):=(← ReflectliteValue.parts v,← ReflectliteValue.parts x)
      | unsupported (.noEntry "extern/(internal/reflectlite.Value).Set.zeroValue")
    if fl / ReflectliteValue.flagAddr % 2 == 0 then unsupported (.noEntry "extern/(internal/reflectlite.Value).Set.unaddressable")
    let val ← loadVar src b
    if ← Rtype.directlyAssignable dst src then storeVar dst a val
    else if ← Rtype.implements dst src then
      if (← Rtype.kind src) == 20 then
        match val with
        | .nilIface=>unsupported (.noEntry "extern/reflectlite: a nil value of one interface type handed on as a value of another")
        | _=>storeVar dst a val
      else storeVar dst a (.iface src val)
    else panicString ("reflectlite.Set: value of type " ++ (← Rtype.spelt src) ++ " is not assignable to type " ++ (← Rtype.spelt dst))
    pure (.tuple #[])):=rfl
theorem parts35a (a:Addr) (w:World):(ReflectliteValue.parts (.agg #[.pointer (some ⟨12,35,none⟩),.pointer (some a),.int .u64 406])).run Tryd.prog w = .ok (some (35,a,406)) w:=by kernel_rfl
theorem parts35 (a:Addr) (w:World):(ReflectliteValue.parts (.agg #[.pointer (some ⟨12,35,none⟩),.pointer (some a),.int .u64 150])).run Tryd.prog w = .ok (some (35,a,150)) w:=by kernel_rfl
theorem direct35 (w:World):(Rtype.directlyAssignable 35 35).run Tryd.prog w = .ok true w:=by kernel_rfl
theorem set35 (ta b e:Addr) (old:Value) (W:World) (hb:W.cell? b = some (.pointer (some e))) (ht:W.cell? ta = some old) (hf:W.frozen? ta = false) :
    (callFunc 71 #[.agg #[.pointer (some ⟨12,35,none⟩),.pointer (some ta),.int .u64 406],.agg #[.pointer (some ⟨12,35,none⟩),.pointer (some b),.int .u64 150]]).run Tryd.prog W
      = .ok (.value (.tuple #[])) (W.setCell ta (.pointer (some e))):=by
  have h8:=@run_callFunc_extern Tryd.prog 71 _ ReflectliteValue.set Tryd.func71 (by kernel_rfl) (by kernel_rfl) (by kernel_rfl) (by kernel_rfl)
  rw [h8,rls]
  simp only [Sem.run_bind,parts35a,parts35,Result.andThen]
  simp [ReflectliteValue.flagAddr,loadVar,isAgg,underlying,Tryd.underlying35,hb,Result.andThen,direct35,storeVar,Value.cells,storeCells,Addr.add]
  rw [run_store Tryd.prog W ta _ _ (by rfl)]
  simp [ht,hf]
/-- The worlds on the way. -/
abbrev W1 (t:Addr) (w:World):World:=w.alloc (.cells #[.pointer (some t)] 70)
abbrev W2 (t:Addr) (w:World):World:=(W1 t w).alloc (.cells #[.pointer (some ⟨12,70,none⟩),.pointer (some ⟨w.heap.size,0,none⟩),.int .u64 150] 112)
abbrev W3 (t:Addr) (w:World):World:=(W2 t w).alloc (.cells #[.pointer (some ⟨12,70,none⟩),.pointer (some ⟨w.heap.size,0,none⟩),.int .u64 150] 112)
theorem as_hit (e t:Addr) (old:Value) (w:World) (hg:w.cell? ⟨5,0,none⟩ = some (.iface 121 (.agg #[.pointer (some ⟨12,25,none⟩)]))) (ht0:w.cell? t = some old) (hf0:w.frozen? t = false) :
    Calls Tryd.prog 30 #[.iface 35 (.pointer (some e)),.iface 70 (.pointer (some t))] w fun ev w'=>ev = .returned (.bool true) ∧ w' = ((W3 t w).alloc (.cells #[.pointer (some e)] 35)).setCell t (.pointer (some e)):=by
  have tO:=typeOf35
  have mA:=methodAssignableTo
  have a25:=assignable35
  have v25:=valueOf35
  have f6:=valueOf70
  have f7:=type70
  have mK:=methodKind
  have mE:=methodElem
  have mI:=methodImplements
  have k27:=kind70
  have k25:=kind35
  have e27:=elem70
  have i25:=implements35
  have n8:=isNil70 ⟨w.heap.size,0,none⟩ t (W2 t w) (by simp)
  have hlt:5 < w.heap.size:=by
    rcases Nat.lt_or_ge 5 w.heap.size with h | h
    · exact h
    · simp [World.cell?,Array.getElem?_eq_none h] at hg
  have hg2:(W2 t w).cell? ⟨5,0,none⟩ = some (.iface 121 (.agg #[.pointer (some ⟨12,25,none⟩)])):=by
    rw [World.cell?_alloc_lt _ _ ⟨5,0,none⟩ (by simp;omega),World.cell?_alloc_lt _ _ ⟨5,0,none⟩ hlt];exact hg
  have htl:t.block < w.heap.size:=by
    rcases Nat.lt_or_ge t.block w.heap.size with h | h
    · exact h
    · simp [World.cell?,Array.getElem?_eq_none h] at ht0
  have el:=elemV70 ⟨w.heap.size,0,none⟩ t (W3 t w) (by rw [World.cell?_alloc_lt _ _ ⟨w.heap.size,0,none⟩ (by simp;omega)];simp)
  have st:=set35 t ⟨w.heap.size + 1 + 1 + 1,0,none⟩ e old ((W3 t w).alloc (.cells #[.pointer (some e)] 35))
    (by rw [World.cell?_alloc_at _ _ _ _ (by simp)];rfl)
    (by rw [World.cell?_alloc_lt _ _ t (by simp;omega),World.cell?_alloc_lt _ _ t (by simp;omega),World.cell?_alloc_lt _ _ t (by simp;omega),World.cell?_alloc_lt _ _ t htl];exact ht0)
    (by rw [World.frozen?_alloc_old _ _ t (by simp;omega),World.frozen?_alloc_old _ _ t (by simp;omega),World.frozen?_alloc_old _ _ t (by simp;omega),World.frozen?_alloc_old _ _ t (Nat.ne_of_lt htl)];exact hf0)
  go_enter Tryd.func30,Tryd.ntmps30
  go_wp2
  refine wp_loop_rounds 1 ?_
  rw [rounds_succ]
  go_wp2
  go_ret
  exact ⟨rfl,rfl⟩
theorem as_miss (e t:Addr) (w:World) (hg:w.cell? ⟨5,0,none⟩ = some (.iface 121 (.agg #[.pointer (some ⟨12,25,none⟩)]))) :
    Calls Tryd.prog 30 #[.iface 71 (.pointer (some e)),.iface 70 (.pointer (some t))] w fun ev w'=>ev = .returned (.bool false) ∧ w' = W3 t w:=by
  have tO:=isTypeOf
  have mA:=methodAssignableTo
  have a25:=assignable71
  have f6:=valueOf70
  have f7:=type70
  have mK:=methodKind
  have mE:=methodElem
  have mI:=methodImplements
  have k27:=kind70
  have k25:=kind35
  have e27:=elem70
  have i25:=implements35
  have nA:=noAsE
  have uE:=noUnwrapE
  have vE:=noUnwrapsE
  have n8:=isNil70 ⟨w.heap.size,0,none⟩ t (W2 t w) (by simp)
  have hlt:5 < w.heap.size:=by
    rcases Nat.lt_or_ge 5 w.heap.size with h | h
    · exact h
    · simp [World.cell?,Array.getElem?_eq_none h] at hg
  have hg2:(W2 t w).cell? ⟨5,0,none⟩ = some (.iface 121 (.agg #[.pointer (some ⟨12,25,none⟩)])):=by
    rw [World.cell?_alloc_lt _ _ ⟨5,0,none⟩ (by simp;omega),World.cell?_alloc_lt _ _ ⟨5,0,none⟩ hlt];exact hg
  go_enter Tryd.func30,Tryd.ntmps30
  go_wp2
  refine wp_loop_rounds 1 ?_
  rw [rounds_succ]
  go_wp2
  go_ret
  exact ⟨rfl,rfl⟩
end Go.Proofs.Sp
set_option maxRecDepth 100000
namespace Go.SH
open Go.Proofs
/-- Where the program's five errors lie. -/
class Sent34 where
  f:Nat → Addr
  inj:∀ i j,f i = f j → i = j
def errT:List Value:=[.iface 121 (.agg #[.pointer (some ⟨12,25,none⟩)])]
def p10T:List Value:=Lib.pow10Tab.map fun z=>Value.int .u64 z
instance instSent [Sent34]:SentA:=⟨Sent34.f,Sent34.inj,[(5,[.xc 5 errT]),(7,[.xc 7 p10T])],fun _=>⟨0,[],.skip,.skip,[]⟩⟩
def GT:GTab:=[(0,⟨.te 71,[some 0]⟩),(1,⟨.te 71,[some 1]⟩),(2,⟨.te 71,[some 2]⟩),(3,⟨.te 71,[some 3]⟩),(4,⟨.te 71,[some 4]⟩)]
variable [Sent34]
noncomputable def En:Env:=⟨Tryd.prog,gtPV GT,none,none⟩
theorem En_G (g:Nat) (cells:List PV) (h:lget En.G g = some cells):(∃ k,cells = [.ev 71 (some (SentA.f k))]) ∨ (g = 5 ∧ cells = [.xc 5 errT]) ∨ (g = 7 ∧ cells = [.xc 7 p10T]):=by
  simp only [En,gtPV,GT,SentA.extra,List.map_cons,List.map_nil,List.cons_append,List.nil_append,lget] at h
  split at h;· simp at h;subst h;exact .inl ⟨0,rfl⟩
  split at h;· simp at h;subst h;exact .inl ⟨1,rfl⟩
  split at h;· simp at h;subst h;exact .inl ⟨2,rfl⟩
  split at h;· simp at h;subst h;exact .inl ⟨3,rfl⟩
  split at h;· simp at h;subst h;exact .inl ⟨4,rfl⟩
  split at h;· rename_i e;simp at h;subst h;exact .inr (.inl ⟨e.symm,rfl⟩)
  split at h;· rename_i e;simp at h;subst h;exact .inr (.inr ⟨e.symm,rfl⟩)
  simp at h
theorem En_ok:GOK En:=by
  intro g cells h
  rcases En_G g cells h with ⟨k,rfl⟩ | ⟨_,rfl⟩ | ⟨_,rfl⟩ <;> rfl
theorem En_mixed:En.P.follows .mixedOrders = true:=by kernel_rfl
noncomputable def noC:CT En:=⟨fun _=>none,fun _=>none,fun _=>none⟩
noncomputable def cl (l:List (PCon En)) (m:List (ICon En)):CT En:=⟨fun i=>l[i]?,fun i=>m[i]?,fun _=>none⟩
theorem cells2 {α:Type} {l:List α} (h:l.length = 2):∃ x y,l = [x,y]:=by
  match l,h with
  | [x,y],_=>exact ⟨x,y,rfl⟩
theorem itoa_pure {n:Int} {v:List UInt8} (h:itoa n = some v):Pure En 32 [.int .i64 n] (.str v):=by
  obtain ⟨⟨h0,h1⟩,h⟩:=req_some h
  simp at h;subst h
  refine Pure.of_calls fun A w σ cargs hl hv hg=>?_
  obtain ⟨x,rfl⟩:∃ x,cargs = [x]:=by match cargs,hl with | [x],_=>exact ⟨x,rfl⟩
  obtain rfl:=(hv 0 _ x rfl rfl).int_inv
  obtain ⟨T,fr,ht⟩:=xc_cell (hg 7 _ (by rfl))
  refine (Tryd.strconv_Itoa n h0 h1 w ?_).mono ?_
  · show w.var? Tryd.prog "internal/strconv.uint64pow10" = _
    unfold World.var?
    rw [show Tryd.prog.globalNamed "internal/strconv.uint64pow10" = some 7 from by kernel_rfl]
    simp [ht,p10T]
  · rintro e w' ⟨rfl,k,os,rfl⟩
    refine ⟨_,rfl,.str _,?_,fun β hb=>?_,rfl,rfl,rfl⟩
    · simp [Sort.grow,World.drewN]
    · simp only [Sort.grow,World.drewN];rw [Array.getElem?_append_left hb]
noncomputable def itoa_c:PCon En:=⟨32,[.h (.ti .i64)],.h .ts,fun a=>itoa a,Tryd.call32,fun a v h=>itoa_pure h⟩
theorem u8_back (c:UInt8):((c.toNat:Int)).toNat.toUInt8 = c:=by simp
theorem idxB_pure {f:FuncId} (hf:∀ (s:ByteArray) (c:Int) (w:World),Calls Tryd.prog f #[.string s,.int .u8 c] w fun e w'=>e = .returned (.int .i64 (Lib.indexByte s.data.toList c.toNat.toUInt8)) ∧ w' = w)
    {s:List UInt8} {c:UInt8} {v:Int} (h:idxB s c = some v):Pure En f [.str s,.int .u8 c.toNat] (.int .i64 v):=by
  simp [idxB] at h;subst h
  refine Pure.of_calls fun A w σ cargs hl hv hg=>?_
  obtain ⟨x,y,rfl⟩:=cells2 hl
  obtain rfl:=(hv 0 _ x rfl rfl).str_inv
  obtain rfl:=(hv 1 _ y rfl rfl).int_inv
  refine (hf ⟨⟨s⟩⟩ c.toNat w).mono ?_
  rintro e w' ⟨rfl,rfl⟩
  refine ⟨_,rfl,?_,Nat.le_refl _,fun _ _=>rfl,rfl,rfl,rfl⟩
  rw [u8_back];exact .int _ _
noncomputable def idxB_c:PCon En:=⟨82,[.h .ts,.h .tu],.h (.ti .i64),fun a=>idxB a.1 a.2,Tryd.call82,fun a v h=>idxB_pure Tryd.strings_IndexByte h⟩
noncomputable def idxL_c:PCon En:=⟨75,[.h .ts,.h .tu],.h (.ti .i64),fun a=>idxB a.1 a.2,Tryd.call75,fun a v h=>idxB_pure Tryd.stringslite_IndexByte h⟩
theorem back_same {w:World} {A:Nat → Prop} {b:Bool} {e:Ending} {w':World} (h:e = .returned (.bool b) ∧ w' = w) :
    ∃ c,e = .returned c ∧ VR w' sig0 (avo A sig0 []) (.bool b) c ∧ w.heap.size ≤ w'.heap.size ∧ (∀ β,β < w.heap.size → w'.heap[β]? = w.heap[β]?) ∧ (w'.os = w.os ∧ w'.output = w.output ∧ w'.tape = w.tape):=by
  obtain ⟨rfl,rfl⟩:=h
  exact ⟨_,rfl,.bool _,Nat.le_refl _,fun _ _=>rfl,rfl,rfl,rfl⟩
theorem isE_pure {e t:Option Nat} {v:Bool} (h:isE e t = some v):Pure En 21 [.ev 71 (e.map SentA.f),.ev 71 (t.map SentA.f)] (.bool v):=by
  cases t with
  | none=>simp [isE] at h
  | some b=>
    simp [isE] at h;subst h
    refine Pure.of_calls fun A w σ cargs hl hv hg=>?_
    obtain ⟨x,y,rfl⟩:=cells2 hl
    obtain ⟨rfl,hx⟩:=(hv 0 _ x rfl rfl).ev_inv
    obtain ⟨rfl,hy⟩:=(hv 1 _ y rfl rfl).ev_inv
    cases e with
    | none=>exact (Go.Proofs.Sp.is_nil _ w).mono fun e w' h=>back_same h
    | some a=>
      by_cases hab:a = b
      · subst hab
        exact (Go.Proofs.Sp.is_same _ w).mono fun e w' h=>by simpa using back_same (A:=A) h
      · obtain ⟨ca,ta,ha⟩:=(hx _ rfl).heap
        obtain ⟨cb,tb,hb⟩:=(hy _ rfl).heap
        refine (Go.Proofs.Sp.is_other _ _ ca cb ta tb w (fun e=>hab (SentA.inj _ _ e)) ha hb).mono fun e w' h=>?_
        have:=back_same (A:=A) h
        rw [show (some a == some b) = false from by simp [hab]];exact this
noncomputable def isE_c:PCon En:=⟨21,[.h (.te 71),.h (.te 71)],.h .tb,fun a=>isE a.1 a.2,Tryd.call21,fun a v h=>isE_pure h⟩
/-- A fault that nobody writes: its two cells. -/
theorem fault_inv {w:World} {σ:Sig} {av:Nat → Prop} {y:Int × Option Nat} {v:Value} (h:VR w σ av (.iface 35 (.rop ((el FaT).pv y) 0)) v) :
    ∃ β add,v = .iface 35 (.pointer (some ⟨β,add,none⟩)) ∧ w.cell? ⟨β,add + 1,none⟩ = some (evV 71 (y.2.map SentA.f)) ∧ (∀ a,y.2.map SentA.f = some a → EvA w av a) ∧ VR w σ av (.rop ((el FaT).pv y) 0) (.pointer (some ⟨β,add,none⟩)):=by
  cases h with
  | iface _ u hu=>
    have hu':=hu
    cases hu with
    | @rop _ _ β add cs him hl hcv=>
      have hl2:cs.length = 2:=by rw [← hl];rfl
      obtain ⟨c0,c1,rfl⟩:=cells2 hl2
      obtain ⟨e,k⟩:=(hcv 1 _ c1 rfl rfl).ev_inv
      exact ⟨β,add,rfl,by rw [him.cell 1 c1 rfl,e],k,hu'⟩
theorem isF_pure {x:Option (Int × Option Nat)} {t:Option Nat} {v:Bool} (h:isF x t = some v):Pure En 21 [optI 35 (el FaT) x,.ev 71 (t.map SentA.f)] (.bool v):=by
  cases t with
  | none=>simp [isF] at h
  | some b=>
    refine Pure.of_calls fun A w σ cargs hl hv hg=>?_
    obtain ⟨u,u',rfl⟩:=cells2 hl
    obtain ⟨rfl,hy⟩:=(hv 1 _ u' rfl rfl).ev_inv
    have hu:=hv 0 _ u rfl rfl
    cases x with
    | none=>
      simp [isF] at h;subst h
      cases hu
      exact (Go.Proofs.Sp.is_nil _ w).mono fun e w' h=>back_same h
    | some y=>
      simp [isF] at h;subst h
      obtain ⟨β,add,rfl,hc,hk,_⟩:=fault_inv hu
      obtain ⟨n,e⟩:=y
      cases e with
      | none=>exact (Go.Proofs.Sp.is_wrap_nil β add _ w hc).mono fun e w' h=>back_same h
      | some a=>
        by_cases hab:a = b
        · subst hab
          exact (Go.Proofs.Sp.is_wrap_same β add _ w hc).mono fun e w' h=>by simpa using back_same (A:=A) h
        · obtain ⟨ca,ta,ha⟩:=(hk _ rfl).heap
          obtain ⟨cb,tb,hb⟩:=(hy _ rfl).heap
          refine (Go.Proofs.Sp.is_wrap_other β add _ _ ca cb ta tb w hc (fun e=>hab (SentA.inj _ _ e)) ha hb).mono fun e w' h=>?_
          have:=back_same (A:=A) h
          rw [show ((n,some a).snd == some b) = false from by simp [hab]];exact this
noncomputable def isF_c:PCon En:=⟨21,[.h (.to 35 FaT),.h (.te 71)],.h .tb,fun a=>isF a.1 a.2,Tryd.call21,fun a v h=>isF_pure h⟩
def as_ar1:List Sh:=[.h (.to 35 FaT),.iface 70 (.ptr 0 0)]
def as_ar0:List Sh:=[.h (.te 71),.iface 70 (.ptr 0 0)]
def as_ls:List (Nat × LSh):=[(0,.cs [.k .nilp])]
def as_ot1:Tm:=⟨[(0,.h .tb)],[],[],[(0,0,.h (.tq FaT))],[]⟩
def as_ot0:Tm:=⟨[(0,.k (.bool false))],[],[],[],[]⟩
theorem frozen_own {w:World} {β add size:Nat} {c:Array Value} {T:TypeId} {fr:Nat × Nat} (hh:w.heap[β]? = some (.cells c T fr)) (hf:fr.1 = fr.2 ∨ size ≤ fr.1) (hl:add < size):w.frozen? ⟨β,add,none⟩ = false:=by
  obtain ⟨lo,hi⟩:=fr
  simp only [World.frozen?,hh]
  simp only at hf
  rcases hf with h | h <;> simp <;> omega
theorem heap_setCell {w:World} {β add:Nat} {c:Array Value} {T:TypeId} {fr:Nat × Nat} (hh:w.heap[β]? = some (.cells c T fr)) (v:Value) :
    (w.setCell ⟨β,add,none⟩ v).heap.size = w.heap.size ∧ (∀ k,k ≠ β → (w.setCell ⟨β,add,none⟩ v).heap[k]? = w.heap[k]?) ∧ (w.setCell ⟨β,add,none⟩ v).heap[β]? = some (.cells (c.setIfInBounds add v) T fr) ∧
    ((w.setCell ⟨β,add,none⟩ v).os = w.os ∧ (w.setCell ⟨β,add,none⟩ v).output = w.output ∧ (w.setCell ⟨β,add,none⟩ v).tape = w.tape):=by
  have hlt:=(Array.getElem?_eq_some_iff.1 hh).1
  refine ⟨?_,fun k hk=>?_,?_,?_⟩ <;> simp [World.setCell]
  · rw [Array.getElem?_modify,if_neg (Ne.symm hk)]
  · rw [Array.getElem?_modify,if_pos rfl,hh];rfl
theorem asF_calls {x:Option (Int × Option Nat)} {b:Bool} {y:Option (Int × Option Nat)} (h:asFa x = some (b,y)) :
    ACalls En 30 [optI 35 (el FaT) x,.iface 70 (.ptr 0 0)] [(0,some [.nilp])] fun r L=>r = .bool b ∧ L = [(0,some [optQ (el FaT) y])]:=by
  simp [asFa] at h;obtain ⟨rfl,rfl⟩:=h
  intro A w σ cargs hl hv hbr hg
  obtain ⟨u,u',rfl⟩:=cells2 hl
  have hu:=hv 0 _ u rfl rfl
  have hu':=hv 1 _ u' rfl rfl
  cases x with
  | none=>
    cases hu
    refine (Go.Proofs.Sp.as_nil u' w).mono ?_
    rintro e w' ⟨rfl,rfl⟩
    exact ⟨_,_,[(0,some [.nilp])],σ,rfl,⟨rfl,rfl⟩,.bool _,hbr,Grow.refl _ _ _ _⟩
  | some z=>
    obtain ⟨β0,add0,rfl,_,_,hro⟩:=fault_inv hu
    cases hu' with
    | iface _ p hp=>
      cases hp with
      | @ptr _ _ β add size hs=>
        rcases hbr.all 0 [.nilp] (by rfl) with ⟨h3,_⟩ | ⟨β',add',size',c,T,fr,hB⟩
        · rw [hs] at h3;simp at h3
        · have:=hB.sig;rw [hs] at this;simp at this
          obtain ⟨rfl,rfl,rfl⟩:=this
          have hsz:=hB.fits
          simp at hsz
          obtain ⟨v0,hc0,hv0⟩:=hB.vals 0 .nilp rfl
          obtain ⟨T5,fr5,h5⟩:=xc_cell (hg 5 _ (by rfl))
          have hlt:β < w.heap.size:=(Array.getElem?_eq_some_iff.1 hB.heap).1
          refine (Go.Proofs.Sp.as_hit ⟨β0,add0,none⟩ ⟨β,add + 0,none⟩ v0 w ?_ ?_ ?_).mono ?_
          · simp [World.cell?,h5,errT]
          · rw [show w.cell? ⟨β,add + 0,none⟩ = c[add + 0]? from cell_of_heap hB.heap];exact hc0
          · exact frozen_own hB.heap hB.frs (by omega)
          rintro e w' ⟨rfl,rfl⟩
          obtain ⟨hbr2,hg2⟩:=hbr.more (w':=(Go.Proofs.Sp.W3 ⟨β,add + 0,none⟩ w).alloc (.cells #[.pointer (some ⟨β0,add0,none⟩)] 35)) (by simp;omega)
            (fun γ hγ=>by
              rw [heap_old _ _ _ (by simp;omega),heap_old _ _ _ (by simp;omega),heap_old _ _ _ (by simp;omega),heap_old _ _ _ hγ]) ⟨rfl,rfl,rfl⟩
          have hh2:((Go.Proofs.Sp.W3 ⟨β,add + 0,none⟩ w).alloc (.cells #[.pointer (some ⟨β0,add0,none⟩)] 35)).heap[β]? = some (.cells c T fr):=by
            rw [heap_old _ _ _ (by simp;omega),heap_old _ _ _ (by simp;omega),heap_old _ _ _ (by simp;omega),heap_old _ _ _ hlt];exact hB.heap
          obtain ⟨e1,e2,e3,e4⟩:=heap_setCell (add:=add + 0) hh2 (.pointer (some ⟨β0,add0,none⟩))
          have hB2:Blk _ σ (avo A σ [(0,some [.nilp])]) 0 [.nilp] β add size c T fr:=⟨hB.sig,hh2,hB.hsz,hB.fits,fun i x hx=>let ⟨v,h1,h2⟩:=hB.vals i x hx;⟨v,h1,h2.grow hg2⟩,hB.frs⟩
          obtain ⟨hbr3,hg3⟩:=hbr2.write (l:=0) (cells':=[.rop ((el FaT).pv z) 0]) (c':=c.setIfInBounds (add + 0) (.pointer (some ⟨β0,add0,none⟩))) (by rfl) hB2 e1 e2 e3 (by simpa using hB.hsz) (by simpa using hsz)
            (fun i x hx=>by
              cases i with
              | zero=>
                simp at hx;subst hx
                have:=hB.hsz
                exact ⟨_,by rw [Array.getElem?_setIfInBounds];simp;omega,hro.grow hg2⟩
              | succ i=>simp at hx) e4
          exact ⟨_,_,[(0,some [.rop ((el FaT).pv z) 0])],σ,rfl,⟨rfl,rfl⟩,.bool _,hbr3,(hg2.trans hg3).weaken fun _ _=>trivial⟩
theorem asE0_calls {e:Option Nat}:ACalls En 30 [.ev 71 (e.map SentA.f),.iface 70 (.ptr 0 0)] [(0,some [.nilp])] fun r L=>r = .bool false ∧ L = [(0,some [.nilp])]:=by
  intro A w σ cargs hl hv hbr hg
  obtain ⟨u,u',rfl⟩:=cells2 hl
  obtain ⟨rfl,_⟩:=(hv 0 _ u rfl rfl).ev_inv
  have hu':=hv 1 _ u' rfl rfl
  cases e with
  | none=>
    refine (Go.Proofs.Sp.as_nil u' w).mono ?_
    rintro e w' ⟨rfl,rfl⟩
    exact ⟨_,_,_,σ,rfl,⟨rfl,rfl⟩,.bool _,hbr,Grow.refl _ _ _ _⟩
  | some a=>
    cases hu' with
    | iface _ p hp=>
      cases hp with
      | @ptr _ _ β add size hs=>
        obtain ⟨T5,fr5,h5⟩:=xc_cell (hg 5 _ (by rfl))
        refine (Go.Proofs.Sp.as_miss (SentA.f a) ⟨β,add + 0,none⟩ w ?_).mono ?_
        · simp [World.cell?,h5,errT]
        rintro e w' ⟨rfl,rfl⟩
        obtain ⟨hbr2,hg2⟩:=hbr.more (w':=Go.Proofs.Sp.W3 ⟨β,add + 0,none⟩ w) (by simp;omega)
          (fun γ hγ=>by rw [heap_old _ _ _ (by simp;omega),heap_old _ _ _ (by simp;omega),heap_old _ _ _ hγ]) ⟨rfl,rfl,rfl⟩
        exact ⟨_,_,_,σ,rfl,⟨rfl,rfl⟩,.bool _,hbr2,hg2.weaken fun _ _=>trivial⟩
noncomputable def asFa_c:ICon En:=⟨30,as_ar1,as_ls,as_ot1,fun a=>asFa a,Tryd.call30,fun a v h=>asF_calls h⟩
noncomputable def asE0_c:ICon En:=⟨30,as_ar0,as_ls,as_ot0,fun _=>asE0,Tryd.call30,fun a v h=>asE0_calls (e:=a)⟩
end Go.SH
set_option maxRecDepth 100000
namespace Go.SH
open Go.Proofs
variable [Sent34]
theorem stringslite_Index_cc6_dq (a:HT (Sh.hss [.h .ts,.k (.str [10])])):DF En GT (cl [idxL_c] []) Tryd.f63.ntmps Tryd.f63.results.toList (bodyOf Tryd.f63) (.seq .leaf (.seq .leaf (.seq (.blk (.join ⟨[(16,.h .tb)],[17,18,19,20,21,22,23],[],[],[]⟩ (.reg [(7,{split:=true})]) (.cond .leaf (.seq .leaf (.cond (.seq (.reg [(3,{con:=0})]) .leaf) .leaf))))) .leaf))) [.h .ts,.k (.str [10])] (.h (.ti .i64)) a = stringslite_Index_cc6 a:=by kernel_rfl
noncomputable def stringslite_Index_cc6_c:PCon En:=⟨63,[.h .ts,.k (.str [10])],.h (.ti .i64),fun a=>stringslite_Index_cc6 a,Tryd.call63,fun a v h=>DF_ok rfl En_mixed rfl En_ok Tryd.func63 rfl rfl (by decide) ((stringslite_Index_cc6_dq a).trans h)⟩
theorem stringslite_Cut_cc6_dq (a:HT (Sh.hss [.h .ts,.k (.str [10])])):DF En GT (cl [stringslite_Index_cc6_c] []) Tryd.f43.ntmps Tryd.f43.results.toList (bodyOf Tryd.f43) (.seq .leaf (.seq (.seq (.reg [(2,{con:=0})]) (.join ⟨[(12,.h .tb)],[11],[],[],[]⟩ (.reg [(1,{split:=true})]) .leaf)) .leaf)) [.h .ts,.k (.str [10])] (.tup [.h .ts,.h .ts,.h .tb]) a = stringslite_Cut_cc6 a:=by kernel_rfl
noncomputable def stringslite_Cut_cc6_c:PCon En:=⟨43,[.h .ts,.k (.str [10])],.tup [.h .ts,.h .ts,.h .tb],fun a=>stringslite_Cut_cc6 a,Tryd.call43,fun a v h=>DF_ok rfl En_mixed rfl En_ok Tryd.func43 rfl rfl (by decide) ((stringslite_Cut_cc6_dq a).trans h)⟩
theorem strings_Cut_cc6_dq (a:HT (Sh.hss [.h .ts,.k (.str [10])])):DF En GT (cl [stringslite_Cut_cc6_c] []) Tryd.f25.ntmps Tryd.f25.results.toList (bodyOf Tryd.f25) (.seq .leaf (.seq (.reg [(2,{con:=0})]) .leaf)) [.h .ts,.k (.str [10])] (.tup [.h .ts,.h .ts,.h .tb]) a = strings_Cut_cc6 a:=by kernel_rfl
noncomputable def strings_Cut_cc6_c:PCon En:=⟨25,[.h .ts,.k (.str [10])],.tup [.h .ts,.h .ts,.h .tb],fun a=>strings_Cut_cc6 a,Tryd.call25,fun a v h=>DF_ok rfl En_mixed rfl En_ok Tryd.func25 rfl rfl (by decide) ((strings_Cut_cc6_dq a).trans h)⟩
theorem stringslite_Index_1a5_dq (a:HT (Sh.hss [.h .ts,.k (.str [32])])):DF En GT (cl [idxL_c] []) Tryd.f63.ntmps Tryd.f63.results.toList (bodyOf Tryd.f63) (.seq .leaf (.seq .leaf (.seq (.blk (.join ⟨[(16,.h .tb)],[17,18,19,20,21,22,23],[],[],[]⟩ (.reg [(7,{split:=true})]) (.cond .leaf (.seq .leaf (.cond (.seq (.reg [(3,{con:=0})]) .leaf) .leaf))))) .leaf))) [.h .ts,.k (.str [32])] (.h (.ti .i64)) a = stringslite_Index_1a5 a:=by kernel_rfl
noncomputable def stringslite_Index_1a5_c:PCon En:=⟨63,[.h .ts,.k (.str [32])],.h (.ti .i64),fun a=>stringslite_Index_1a5 a,Tryd.call63,fun a v h=>DF_ok rfl En_mixed rfl En_ok Tryd.func63 rfl rfl (by decide) ((stringslite_Index_1a5_dq a).trans h)⟩
theorem stringslite_Cut_1a5_dq (a:HT (Sh.hss [.h .ts,.k (.str [32])])):DF En GT (cl [stringslite_Index_1a5_c] []) Tryd.f43.ntmps Tryd.f43.results.toList (bodyOf Tryd.f43) (.seq .leaf (.seq (.seq (.reg [(2,{con:=0})]) (.join ⟨[(12,.h .tb)],[11],[],[],[]⟩ (.reg [(1,{split:=true})]) .leaf)) .leaf)) [.h .ts,.k (.str [32])] (.tup [.h .ts,.h .ts,.h .tb]) a = stringslite_Cut_1a5 a:=by kernel_rfl
noncomputable def stringslite_Cut_1a5_c:PCon En:=⟨43,[.h .ts,.k (.str [32])],.tup [.h .ts,.h .ts,.h .tb],fun a=>stringslite_Cut_1a5 a,Tryd.call43,fun a v h=>DF_ok rfl En_mixed rfl En_ok Tryd.func43 rfl rfl (by decide) ((stringslite_Cut_1a5_dq a).trans h)⟩
theorem strings_Cut_1a5_dq (a:HT (Sh.hss [.h .ts,.k (.str [32])])):DF En GT (cl [stringslite_Cut_1a5_c] []) Tryd.f25.ntmps Tryd.f25.results.toList (bodyOf Tryd.f25) (.seq .leaf (.seq (.reg [(2,{con:=0})]) .leaf)) [.h .ts,.k (.str [32])] (.tup [.h .ts,.h .ts,.h .tb]) a = strings_Cut_1a5 a:=by kernel_rfl
noncomputable def strings_Cut_1a5_c:PCon En:=⟨25,[.h .ts,.k (.str [32])],.tup [.h .ts,.h .ts,.h .tb],fun a=>strings_Cut_1a5 a,Tryd.call25,fun a v h=>DF_ok rfl En_mixed rfl En_ok Tryd.func25 rfl rfl (by decide) ((strings_Cut_1a5_dq a).trans h)⟩
theorem script_form_dq (a:HT (Sh.hss [.h .ts])):DF En GT noC Tryd.f44.ntmps Tryd.f44.results.toList (bodyOf Tryd.f44) (.seq .leaf (.seq (.seq .leaf (.blk (.join ⟨[(4,.h .tb)],[5,6],[],[],[]⟩ (.join ⟨[(4,.h .tb)],[5],[],[],[]⟩ (.reg [(1,{split:=true})]) (.cond .leaf (.reg [(1,{split:=true})]))) (.cond .leaf (.join ⟨[(7,.h .tb)],[8,9,10],[],[],[]⟩ (.join ⟨[(7,.h .tb)],[8],[],[],[]⟩ (.reg [(1,{split:=true})]) (.cond .leaf (.join ⟨[(7,.h .tb)],[9],[],[],[]⟩ (.reg [(1,{split:=true})]) (.cond .leaf (.reg [(1,{split:=true})]))))) (.cond .leaf (.join ⟨[(11,.h .tb)],[12],[],[],[]⟩ (.reg [(1,{split:=true})]) (.cond .leaf (.join ⟨[(13,.h .tb)],[14],[],[],[]⟩ (.reg [(1,{split:=true})]) (.cond .leaf (.join ⟨[(15,.h .tb)],[16],[],[],[]⟩ (.reg [(1,{split:=true})]) (.cond .leaf (.join ⟨[(17,.h .tb)],[18],[],[],[]⟩ (.reg [(1,{split:=true})]) (.cond .leaf (.join ⟨[(19,.h .tb)],[20],[],[],[]⟩ (.reg [(1,{split:=true})]) (.cond .leaf (.join ⟨[(21,.h .tb)],[22],[],[],[]⟩ (.reg [(1,{split:=true})]) (.cond .leaf (.join ⟨[(23,.h .tb)],[24],[],[],[]⟩ (.reg [(1,{split:=true})]) (.cond .leaf (.join ⟨[(25,.h .tb)],[26],[],[],[]⟩ (.reg [(1,{split:=true})]) .leaf))))))))))))))))))))) .leaf)) [.h .ts] (.h .ts) a = script_form a:=by kernel_rfl
noncomputable def script_form_c:PCon En:=⟨44,[.h .ts],.h .ts,fun a=>script_form a,Tryd.call44,fun a v h=>DF_ok rfl En_mixed rfl En_ok Tryd.func44 rfl rfl (by decide) ((script_form_dq a).trans h)⟩
theorem strings_Index_1a5_dq (a:HT (Sh.hss [.h .ts,.k (.str [32])])):DF En GT (cl [stringslite_Index_1a5_c] []) Tryd.f81.ntmps Tryd.f81.results.toList (bodyOf Tryd.f81) (.seq .leaf (.seq (.reg [(2,{con:=0})]) .leaf)) [.h .ts,.k (.str [32])] (.h (.ti .i64)) a = strings_Index_1a5 a:=by kernel_rfl
noncomputable def strings_Index_1a5_c:PCon En:=⟨81,[.h .ts,.k (.str [32])],.h (.ti .i64),fun a=>strings_Index_1a5 a,Tryd.call81,fun a v h=>DF_ok rfl En_mixed rfl En_ok Tryd.func81 rfl rfl (by decide) ((strings_Index_1a5_dq a).trans h)⟩
theorem strings_genSplit_92d_dq (a:HT (Sh.hss [.h .ts,.k (.str [32]),.h (.ti .i64),.h (.ti .i64)])):DF En GT (cl [strings_Index_1a5_c] []) Tryd.f64.ntmps Tryd.f64.results.toList (bodyOf Tryd.f64) (.seq .leaf (.seq (.join ⟨[(13,.h .tb)],[12],[],[],[]⟩ (.reg [(1,{split:=true})]) .leaf) (.seq .leaf (.seq (.join ⟨[(20,.h .tb)],[19],[],[],[]⟩ (.reg [(1,{split:=true})]) (.cond (.reg [(2,{con:=99})]) .leaf)) (.seq .leaf (.seq .leaf (.seq .leaf (.seq .leaf (.seq (.blk (.loop ⟨[(0,.h .ts),(10,.h (.ti .i64))],[11,34,35,36,37,38,39,40,41,42,43,44,45,46,47,48,49,50,51,52,53,54,55,56,57],[(0,.ls .ts)],[],[]⟩ [(.exit 0,⟨[(0,.h .ts),(10,.h (.ti .i64))],[11,34,35,36,37,38,39,40,41,42,43,44,45,46,47,48,49,50,51,52,53,54,55,56,57],[(0,.ls .ts)],[],[]⟩)] (.seq (.join ⟨[(36,.h .tb)],[34,35],[],[],[]⟩ (.reg [(2,{split:=true})]) .leaf) (.blk (.seq (.reg [(2,{con:=0})]) (.seq (.join ⟨[(41,.h .tb)],[40],[],[],[]⟩ (.reg [(1,{split:=true})]) .leaf) .leaf)))))) .leaf))))))))) [.h .ts,.k (.str [32]),.h (.ti .i64),.h (.ti .i64)] (.h (.tl .ts)) a = strings_genSplit_92d a.1 a.2.1 a.2.2:=by kernel_rfl
noncomputable def strings_genSplit_92d_c:PCon En:=⟨64,[.h .ts,.k (.str [32]),.h (.ti .i64),.h (.ti .i64)],.h (.tl .ts),fun a=>strings_genSplit_92d a.1 a.2.1 a.2.2,Tryd.call64,fun a v h=>DF_ok rfl En_mixed rfl En_ok Tryd.func64 rfl rfl (by decide) ((strings_genSplit_92d_dq a).trans h)⟩
theorem strings_SplitN_02b_dq (a:HT (Sh.hss [.h .ts,.k (.str [32]),.h (.ti .i64)])):DF En GT (cl [strings_genSplit_92d_c] []) Tryd.f45.ntmps Tryd.f45.results.toList (bodyOf Tryd.f45) (.seq .leaf (.seq (.reg [(3,{con:=0})]) .leaf)) [.h .ts,.k (.str [32]),.h (.ti .i64)] (.h (.tl .ts)) a = strings_SplitN_02b a.1 a.2:=by kernel_rfl
noncomputable def strings_SplitN_02b_c:PCon En:=⟨45,[.h .ts,.k (.str [32]),.h (.ti .i64)],.h (.tl .ts),fun a=>strings_SplitN_02b a.1 a.2,Tryd.call45,fun a v h=>DF_ok rfl En_mixed rfl En_ok Tryd.func45 rfl rfl (by decide) ((strings_SplitN_02b_dq a).trans h)⟩
theorem script_choice_dq (a:HT (Sh.hss [.h .ts,.h .ts,.h .ts])):DF En GT noC Tryd.f65.ntmps Tryd.f65.results.toList (bodyOf Tryd.f65) (.seq .leaf (.seq (.seq .leaf (.blk (.join ⟨[(9,.h .tb)],[10,11],[],[],[]⟩ (.reg [(2,{split:=true})]) (.cond .leaf (.join ⟨[(13,.h .tb)],[14,15],[],[],[]⟩ (.reg [(2,{split:=true})]) .leaf))))) .leaf)) [.h .ts,.h .ts,.h .ts] (.tup [.st (.tp (.ti .i64) (.tl .tu)),.h (.te 71)]) a = script_choice a.1 a.2.1 a.2.2:=by kernel_rfl
noncomputable def script_choice_c:PCon En:=⟨65,[.h .ts,.h .ts,.h .ts],.tup [.st (.tp (.ti .i64) (.tl .tu)),.h (.te 71)],fun a=>script_choice a.1 a.2.1 a.2.2,Tryd.call65,fun a v h=>DF_ok rfl En_mixed rfl En_ok Tryd.func65 rfl rfl (by decide) ((script_choice_dq a).trans h)⟩
theorem script_plain_dq (a:HT (Sh.hss [.h .tu])):DF En GT noC Tryd.f73.ntmps Tryd.f73.results.toList (bodyOf Tryd.f73) (.seq .leaf (.seq (.reg [(2,{split:=true}),(6,{split:=true}),(10,{split:=true})]) .leaf)) [.h .tu] (.h .tb) a = script_plain a:=by kernel_rfl
noncomputable def script_plain_c:PCon En:=⟨73,[.h .tu],.h .tb,fun a=>script_plain a,Tryd.call73,fun a v h=>DF_ok rfl En_mixed rfl En_ok Tryd.func73 rfl rfl (by decide) ((script_plain_dq a).trans h)⟩
theorem script_text_dq (a:HT (Sh.hss [.h .ts,.h (.ti .i64),.h (.ti .i64)])):DF En GT (cl [script_plain_c,idxB_c] []) Tryd.f66.ntmps Tryd.f66.results.toList (bodyOf Tryd.f66) (.seq .leaf (.seq (.join ⟨[(28,.h .tb)],[13,14,15,16,17,18,19,20,21,22,23,24,25,26,27],[],[],[]⟩ (.reg [(3,{split:=true}),(8,{split:=true}),(15,{split:=true})]) .leaf) (.seq .leaf (.seq .leaf (.seq (.seq .leaf (.blk (.loop ⟨[(8,.rww 1 1),(9,.h (.ti .i64))],[10,11,12,36,37,38,39,40,41,42,43,44,45,46,47,48,49,50,51,52,53,54,55,56,59,60,61,62,63,64,65,66,67,68,69,70,71,72,73,74,75,76,77,78,79,80,81,82,85,86,87,88,89,90,91,92,93,94,95],[(1,.ls .tu)],[],[]⟩ [(.ret,⟨[(7,.h (.te 71))],[8,9,10,11,12,36,37,38,39,40,41,42,43,44,45,46,47,48,49,50,51,52,53,54,55,56,57,58,59,60,61,62,63,64,65,66,67,68,69,70,71,72,73,74,75,76,77,78,79,80,81,82,83,84,85,86,87,88,89,90,91,92,93,94,95],[],[(0,0,.k (.int .i64 0)),(0,1,.k .nils)],[]⟩),(.exit 0,⟨[(8,.rww 1 1)],[9,10,11,12,36,37,38,39,40,41,42,43,44,45,46,47,48,49,50,51,52,53,54,55,56,59,60,61,62,63,64,65,66,67,68,69,70,71,72,73,74,75,76,77,78,79,80,81,82,85,86,87,88,89,90,91,92,93,94,95],[(1,.ls .tu)],[],[]⟩)] (.seq (.join ⟨[(39,.h .tb)],[36,37,38],[],[],[]⟩ (.reg [(3,{split:=true})]) .leaf) (.seq (.blk (.seq .leaf (.joinX ⟨[(9,.h (.ti .i64)),(10,.h .tu)],[11,12,45,46,47,48,49,50,51,52,53,54,55,56,59,60,61,62,63,64,65,66,67,68,69,70,71,72,73,74,75,76,77,78,79,80,81,82,85,86,87,88,89,90,91],[],[],[]⟩ (.join ⟨[(47,.h .tb)],[45,46],[],[],[]⟩ (.reg [(1,{con:=0}),(2,{split:=true})]) (.cond (.seq (.join ⟨[(56,.h .tb)],[48,49,50,51,52,53,54,55],[],[],[]⟩ (.reg [(2,{split:=true}),(8,{split:=true})]) .leaf) (.seq (.reg [(4,{con:=1}),(9,{con:=1})]) (.seq (.join ⟨[(82,.h .tb)],[69,70,71,72,73,74,75,76,77,78,79,80,81],[],[],[]⟩ (.reg [(2,{split:=true}),(6,{split:=true}),(12,{con:=0}),(13,{split:=true})]) .leaf) .leaf))) .leaf)) .leaf))) .leaf))))) (.seq (.join ⟨[(105,.h .tb)],[96,97,98,99,100,101,102,103,104],[],[],[]⟩ (.reg [(4,{split:=true}),(9,{split:=true})]) .leaf) .leaf)))))) [.h .ts,.h (.ti .i64),.h (.ti .i64)] (.tup [.st (.tp (.ti .i64) (.tl .tu)),.h (.te 71)]) a = script_text a.1 a.2.1 a.2.2:=by kernel_rfl
noncomputable def script_text_c:PCon En:=⟨66,[.h .ts,.h (.ti .i64),.h (.ti .i64)],.tup [.st (.tp (.ti .i64) (.tl .tu)),.h (.te 71)],fun a=>script_text a.1 a.2.1 a.2.2,Tryd.call66,fun a v h=>DF_ok rfl En_mixed rfl En_ok Tryd.func66 rfl rfl (by decide) ((script_text_dq a).trans h)⟩
theorem script_bounds_dq (a:HT (Sh.hss [.h .tu])):DF En GT noC Tryd.f83.ntmps Tryd.f83.results.toList (bodyOf Tryd.f83) (.seq .leaf (.seq (.seq .leaf (.blk (.join ⟨[(5,.h .tb)],[6],[],[],[]⟩ (.reg [(1,{split:=true})]) (.cond .leaf (.join ⟨[(7,.h .tb)],[8],[],[],[]⟩ (.reg [(1,{split:=true})]) (.cond .leaf (.join ⟨[(9,.h .tb)],[10],[],[],[]⟩ (.reg [(1,{split:=true})]) (.cond .leaf (.join ⟨[(11,.h .tb)],[12],[],[],[]⟩ (.reg [(1,{split:=true})]) (.cond .leaf (.join ⟨[(13,.h .tb)],[14],[],[],[]⟩ (.reg [(1,{split:=true})]) .leaf))))))))))) .leaf)) [.h .tu] (.tup [.h (.ti .i64),.h (.ti .i64)]) a = script_bounds a:=by kernel_rfl
noncomputable def script_bounds_c:PCon En:=⟨83,[.h .tu],.tup [.h (.ti .i64),.h (.ti .i64)],fun a=>script_bounds a,Tryd.call83,fun a v h=>DF_ok rfl En_mixed rfl En_ok Tryd.func83 rfl rfl (by decide) ((script_bounds_dq a).trans h)⟩
theorem script_number_dq (a:HT (Sh.hss [.h .ts,.h .tu])):DF En GT (cl [script_bounds_c] []) Tryd.f67.ntmps Tryd.f67.results.toList (bodyOf Tryd.f67) (.seq .leaf (.seq (.reg [(1,{con:=0})]) (.seq .leaf (.seq (.join ⟨[(31,.h .tb)],[15,16,17,18,19,20,21,22,23,24,25,26,27,28,29,30],[],[],[]⟩ (.reg [(2,{split:=true}),(7,{split:=true}),(11,{split:=true}),(16,{split:=true})]) .leaf) (.seq (.seq .leaf (.blk (.loop ⟨[(8,.h (.ti .i64)),(36,.h (.ti .i64))],[9,37,38,39,40,41,42,43,44,45,46,47,48,51,52,53,54,55,56,57,58,59],[],[],[]⟩ [(.ret,⟨[(5,.h (.te 71))],[8,9,36,37,38,39,40,41,42,43,44,45,46,47,48,49,50,51,52,53,54,55,56,57,58,59],[],[(0,0,.k (.int .i64 0)),(0,1,.k .nils)],[]⟩),(.exit 0,⟨[(8,.h (.ti .i64))],[9,36,37,38,39,40,41,42,43,44,45,46,47,48,51,52,53,54,55,56,57,58,59],[],[],[]⟩)] (.join ⟨[(37,.h .tb)],[],[],[],[]⟩ (.reg [(0,{split:=true})]) (.seq .leaf (.seq (.blk (.seq .leaf (.seq (.join ⟨[(48,.h .tb)],[39,40,41,42,43,44,45,46,47],[],[],[]⟩ (.reg [(4,{split:=true}),(9,{split:=true})]) .leaf) .leaf))) .leaf)))))) (.seq (.join ⟨[(67,.h .tb)],[60,61,62,63,64,65,66],[],[],[]⟩ (.reg [(3,{split:=true}),(7,{split:=true})]) .leaf) .leaf)))))) [.h .ts,.h .tu] (.tup [.st (.tp (.ti .i64) (.tl .tu)),.h (.te 71)]) a = script_number a.1 a.2:=by kernel_rfl
noncomputable def script_number_c:PCon En:=⟨67,[.h .ts,.h .tu],.tup [.st (.tp (.ti .i64) (.tl .tu)),.h (.te 71)],fun a=>script_number a.1 a.2,Tryd.call67,fun a v h=>DF_ok rfl En_mixed rfl En_ok Tryd.func67 rfl rfl (by decide) ((script_number_dq a).trans h)⟩
theorem script_read_dq (a:HT (Sh.hss [.h .ts,.h .tu])):DF En GT (cl [script_choice_c,script_text_c,script_number_c] []) Tryd.f46.ntmps Tryd.f46.results.toList (bodyOf Tryd.f46) (.seq .leaf (.seq (.seq .leaf (.blk (.join ⟨[(7,.h .tb)],[8],[],[],[]⟩ (.reg [(1,{split:=true})]) (.cond (.seq (.reg [(1,{con:=0})]) .leaf) (.join ⟨[(13,.h .tb)],[14],[],[],[]⟩ (.reg [(1,{split:=true})]) (.cond (.seq (.reg [(1,{con:=0})]) .leaf) (.join ⟨[(19,.h .tb)],[20],[],[],[]⟩ (.reg [(1,{split:=true})]) (.cond (.seq (.reg [(1,{con:=1})]) .leaf) (.join ⟨[(25,.h .tb)],[26],[],[],[]⟩ (.reg [(1,{split:=true})]) (.cond (.seq (.reg [(1,{con:=1})]) .leaf) .leaf)))))))))) (.seq (.reg [(2,{con:=2})]) .leaf))) [.h .ts,.h .tu] (.tup [.st (.tp (.ti .i64) (.tl .tu)),.h (.te 71)]) a = script_read a.1 a.2:=by kernel_rfl
noncomputable def script_read_c:PCon En:=⟨46,[.h .ts,.h .tu],.tup [.st (.tp (.ti .i64) (.tl .tu)),.h (.te 71)],fun a=>script_read a.1 a.2,Tryd.call46,fun a v h=>DF_ok rfl En_mixed rfl En_ok Tryd.func46 rfl rfl (by decide) ((script_read_dq a).trans h)⟩
theorem script_event_dq (a:HT (Sh.hss [.h .ts,.h (.tl (.tp (.ti .i64) (.tl .tu)))])):DF En GT noC Tryd.f47.ntmps Tryd.f47.results.toList (bodyOf Tryd.f47) (.seq .leaf (.seq .leaf (.join ⟨[],[11,12,13,14,15,16,17,18,19,20,21,22,23,24,25,26,27,28,29,30,31,32,33,34,35,36,37,38,39,40,41,42,43,44,45,46,47,48,49,50,51,52,53,54,55,56,57,58,59,60,61,62,63,64,65,66,67,68,69,70,71,72,73,74,75,76,77,78,79,80,81,82,83,84,85,86,87,88,89,90,91,92,93,94,95,96,97,98,99,100,101,102,103,104,105,106,107,108,109,110,111,112,113,114,115,116,117,118],[],[(1,0,.h (.ti .i64)),(1,1,.h (.ti .i64)),(1,2,.h (.ti .i64)),(1,3,.h (.ti .i64)),(1,4,.h (.ti .i64)),(1,5,.h (.ti .i64)),(1,6,.h (.tl .tu)),(1,7,.h (.ti .i64)),(1,8,.h (.ti .i64)),(1,9,.h (.tl .tu))],[]⟩ (.seq .leaf (.blk (.join ⟨[(12,.h .tb)],[13,14],[],[],[]⟩ (.join ⟨[(12,.h .tb)],[13],[],[],[]⟩ (.reg [(1,{split:=true})]) (.cond .leaf (.reg [(1,{split:=true})]))) (.cond (.seq .leaf (.join ⟨[(23,.h .tb)],[22],[],[],[]⟩ (.reg [(1,{split:=true})]) .leaf)) (.join ⟨[(25,.h .tb)],[26],[],[],[]⟩ (.reg [(1,{split:=true})]) (.cond .leaf (.join ⟨[(28,.h .tb)],[29],[],[],[]⟩ (.reg [(1,{split:=true})]) (.cond .leaf (.join ⟨[(33,.h .tb)],[34],[],[],[]⟩ (.reg [(1,{split:=true})]) (.cond .leaf (.join ⟨[(38,.h .tb)],[39],[],[],[]⟩ (.reg [(1,{split:=true})]) (.cond .leaf (.join ⟨[(47,.h .tb)],[48],[],[],[]⟩ (.reg [(1,{split:=true})]) (.cond .leaf (.join ⟨[(60,.h .tb)],[61],[],[],[]⟩ (.reg [(1,{split:=true})]) (.cond .leaf (.join ⟨[(68,.h .tb)],[69],[],[],[]⟩ (.reg [(1,{split:=true})]) (.cond .leaf (.join ⟨[(75,.h .tb)],[76],[],[],[]⟩ (.reg [(1,{split:=true})]) (.cond .leaf (.join ⟨[(82,.h .tb)],[83],[],[],[]⟩ (.reg [(1,{split:=true})]) (.cond .leaf (.join ⟨[(93,.h .tb)],[94],[],[],[]⟩ (.reg [(1,{split:=true})]) (.cond .leaf (.join ⟨[(101,.h .tb)],[102],[],[],[]⟩ (.reg [(1,{split:=true})]) .leaf))))))))))))))))))))))))) .leaf))) [.h .ts,.h (.tl (.tp (.ti .i64) (.tl .tu)))] (.st (.tp (.ti .i64) K5605)) a = script_event a.1 a.2:=by kernel_rfl
noncomputable def script_event_c:PCon En:=⟨47,[.h .ts,.h (.tl (.tp (.ti .i64) (.tl .tu)))],.st (.tp (.ti .i64) K5605),fun a=>script_event a.1 a.2,Tryd.call47,fun a v h=>DF_ok rfl En_mixed rfl En_ok Tryd.func47 rfl rfl (by decide) ((script_event_dq a).trans h)⟩
theorem script_parse_dq (a:HT (Sh.hss [.h .ts])):DF En GT (cl [strings_Cut_1a5_c,script_form_c,strings_SplitN_02b_c,script_read_c,script_event_c] []) Tryd.f26.ntmps Tryd.f26.results.toList (bodyOf Tryd.f26) (.seq .leaf (.seq (.reg [(1,{con:=0})]) (.seq (.reg [(1,{con:=1})]) (.seq (.join ⟨[(26,.h .tb)],[21,22,23,24,25],[],[],[]⟩ (.reg [(2,{split:=true}),(5,{split:=true})]) .leaf) (.seq (.reg [(3,{con:=2})]) (.seq (.join ⟨[(37,.h .tb)],[33,34,35,36],[],[],[]⟩ (.reg [(4,{split:=true})]) .leaf) (.seq .leaf (.seq (.seq .leaf (.blk (.loop ⟨[(9,.rww 1 2),(42,.h (.ti .i64))],[10,11,12,43,44,45,46,47,48,49,50,51,52,53,54,55,56,57,60,61,62,63,64],[(1,.ls (.tp (.ti .i64) (.tl .tu)))],[],[]⟩ [(.ret,⟨[(3,.h (.te 71))],[9,10,11,12,42,43,44,45,46,47,48,49,50,51,52,53,54,55,56,57,58,59,60,61,62,63,64],[],[(0,0,.k (.int .i64 0)),(0,1,.k (.int .i64 0)),(0,2,.k (.int .i64 0)),(0,3,.k (.int .i64 0)),(0,4,.k (.int .i64 0)),(0,5,.k (.int .i64 0)),(0,6,.k .nils),(0,7,.k (.int .i64 0)),(0,8,.k (.int .i64 0)),(0,9,.k .nils)],[]⟩),(.exit 0,⟨[(9,.rww 1 2)],[10,11,12,42,43,44,45,46,47,48,49,50,51,52,53,54,55,56,57,60,61,62,63,64],[(1,.ls (.tp (.ti .i64) (.tl .tu)))],[],[]⟩)] (.join ⟨[(43,.h .tb)],[],[],[],[]⟩ (.reg [(0,{split:=true})]) (.seq .leaf (.seq (.blk (.seq .leaf (.seq (.reg [(7,{con:=3})]) (.seq (.join ⟨[(57,.h .tb)],[56],[],[],[]⟩ (.reg [(1,{split:=true})]) .leaf) .leaf)))) .leaf)))))) (.seq (.reg [(2,{fz:=[(66,.tp (.ti .i64) (.tl .tu))],con:=4})]) .leaf))))))))) [.h .ts] (.tup [.st (.tp (.ti .i64) K5605),.h (.te 71)]) a = script_parse a:=by kernel_rfl
noncomputable def script_parse_c:PCon En:=⟨26,[.h .ts],.tup [.st (.tp (.ti .i64) K5605),.h (.te 71)],fun a=>script_parse a,Tryd.call26,fun a v h=>DF_ok rfl En_mixed rfl En_ok Tryd.func26 rfl rfl (by decide) ((script_parse_dq a).trans h)⟩
theorem script_in_dq (a:HT (Sh.hss [.h (.te 71),.h (.ti .i64)])):DF En GT (cl [] [asE0_c]) Tryd.f27.ntmps Tryd.f27.results.toList (bodyOf Tryd.f27) (.seq .leaf (.seq .leaf (.seq (.seq (.reg [(2,{io:=some 0})]) .leaf) .leaf))) [.h (.te 71),.h (.ti .i64)] (.h (.to 35 (.tp (.ti .i64) (.te 71)))) a = script_in a.1 a.2:=by kernel_rfl
noncomputable def script_in_c:PCon En:=⟨27,[.h (.te 71),.h (.ti .i64)],.h (.to 35 (.tp (.ti .i64) (.te 71))),fun a=>script_in a.1 a.2,Tryd.call27,fun a v h=>DF_ok rfl En_mixed rfl En_ok Tryd.func27 rfl rfl (by decide) ((script_in_dq a).trans h)⟩
theorem script_Parse_dq (a:HT (Sh.hss [.h .ts])):DF En GT (cl [strings_Cut_cc6_c,script_parse_c,script_in_c] []) Tryd.f12.ntmps Tryd.f12.results.toList (bodyOf Tryd.f12) (.seq .leaf (.seq .leaf (.seq (.seq .leaf (.blk (.loop ⟨[(0,.h .ts),(4,.rww 0 10),(5,.h (.ti .i64))],[6,7,8,9,10,11,12,13,14,15,16,17,18,19,20,21,22,23,24,25,26,27,28,29,30,31,32,33,34,35,36,37,38,39,40,41,42,43,44,48],[(0,.ls (.tp (.ti .i64) K5605))],[],[]⟩ [(.ret,⟨[(2,.k .nils),(3,.h (.to 35 (.tp (.ti .i64) (.te 71))))],[0,4,5,6,7,8,9,10,11,12,13,14,15,16,17,18,19,20,21,22,23,24,25,26,27,28,29,30,31,32,33,34,35,36,37,38,39,40,41,42,43,44,45,46,47,48],[],[],[]⟩),(.exit 0,⟨[(4,.rww 0 10)],[0,5,6,7,8,9,10,11,12,13,14,15,16,17,18,19,20,21,22,23,24,25,26,27,28,29,30,31,32,33,34,35,36,37,38,39,40,41,42,43,44,48],[(0,.ls (.tp (.ti .i64) K5605))],[],[]⟩)] (.seq (.join ⟨[(12,.h .tb)],[11],[],[],[]⟩ (.reg [(1,{split:=true})]) .leaf) (.seq (.blk (.seq (.reg [(1,{con:=0})]) (.seq .leaf (.join ⟨[(4,.rww 1 10),(9,.h (.te 71))],[10,21,22,23,24,25,26,27,28,29,30,31,32,33,34,35,36,37,38,39,40,41,42],[(1,.ls (.tp (.ti .i64) K5605))],[],[0]⟩ (.blk (.join ⟨[(30,.h .tb)],[31,32,33,34,35,36,37],[],[],[]⟩ (.reg [(3,{split:=true}),(7,{split:=true})]) (.cond .leaf (.join ⟨[(39,.h .tb)],[40,41],[],[],[]⟩ (.reg [(2,{split:=true})]) (.cond .leaf (.seq .leaf (.seq (.reg [(1,{con:=1})]) .leaf))))))) (.seq (.join ⟨[(44,.h .tb)],[43],[],[],[]⟩ (.reg [(1,{split:=true})]) (.cond (.seq (.reg [(2,{con:=2})]) .leaf) .leaf)) .leaf))))) .leaf))))) .leaf))) [.h .ts] (.tup [.h (.tl (.tp (.ti .i64) K5605)),.h (.to 35 (.tp (.ti .i64) (.te 71)))]) a = script_Parse a:=by kernel_rfl
noncomputable def script_Parse_c:PCon En:=⟨12,[.h .ts],.tup [.h (.tl (.tp (.ti .i64) K5605)),.h (.to 35 (.tp (.ti .i64) (.te 71)))],fun a=>script_Parse a,Tryd.call12,fun a v h=>DF_ok rfl En_mixed rfl En_ok Tryd.func12 rfl rfl (by decide) ((script_Parse_dq a).trans h)⟩
theorem oriellaw34_fault_dq (a:HT (Sh.hss [.h (.to 35 (.tp (.ti .i64) (.te 71)))])):DF En GT (cl [isF_c] [asFa_c]) Tryd.f15.ntmps Tryd.f15.results.toList (bodyOf Tryd.f15) (.seq .leaf (.seq .leaf (.seq (.join ⟨[(17,.h .tb)],[6,7,8,9,10,11,12,13,14,15,16],[],[(0,0,.h (.tq (.tp (.ti .i64) (.te 71))))],[]⟩ (.reg [(2,{split:=true}),(5,{io:=some 0}),(8,{split:=true}),(11,{split:=true})]) .leaf) (.seq .leaf (.join ⟨[(5,.h (.ti .i64))],[18,19,20,21,22,23,24,25,26,27,28,29,30,31,32,33,34,35,36,37],[],[],[]⟩ (.blk (.join ⟨[(18,.h .tb)],[19,20,21],[],[],[]⟩ (.reg [(2,{con:=0}),(3,{split:=true})]) (.cond .leaf (.join ⟨[(22,.h .tb)],[23,24,25],[],[],[]⟩ (.reg [(2,{con:=0}),(3,{split:=true})]) (.cond .leaf (.join ⟨[(26,.h .tb)],[27,28,29],[],[],[]⟩ (.reg [(2,{con:=0}),(3,{split:=true})]) (.cond .leaf (.join ⟨[(30,.h .tb)],[31,32,33],[],[],[]⟩ (.reg [(2,{con:=0}),(3,{split:=true})]) (.cond .leaf (.join ⟨[(34,.h .tb)],[35,36,37],[],[],[]⟩ (.reg [(2,{con:=0}),(3,{split:=true})]) .leaf)))))))))) .leaf))))) [.h (.to 35 (.tp (.ti .i64) (.te 71)))] (.tup [.h (.ti .i64),.h (.ti .i64)]) a = oriellaw34_fault a:=by kernel_rfl
noncomputable def oriellaw34_fault_c:PCon En:=⟨15,[.h (.to 35 (.tp (.ti .i64) (.te 71)))],.tup [.h (.ti .i64),.h (.ti .i64)],fun a=>oriellaw34_fault a,Tryd.call15,fun a v h=>DF_ok rfl En_mixed rfl En_ok Tryd.func15 rfl rfl (by decide) ((oriellaw34_fault_dq a).trans h)⟩
theorem script_quoted_dq (a:HT (Sh.hss [.h (.tl .tu)])):DF En GT (cl [script_plain_c] []) Tryd.f59.ntmps Tryd.f59.results.toList (bodyOf Tryd.f59) (.seq .leaf (.seq .leaf (.seq (.seq .leaf (.blk (.loop ⟨[(3,.rww 1 1),(9,.h (.ti .i64))],[5,6,10,11,12,13,14,15,16,17,18,19,20,21,22,23,24,25,26,27,28],[(1,.ls .tu)],[],[0]⟩ [(.exit 0,⟨[(3,.rww 1 1)],[5,6,9,10,11,12,13,14,15,16,17,18,19,20,21,22,23,24,25,26,27,28],[(1,.ls .tu)],[],[0]⟩)] (.join ⟨[(10,.h .tb)],[],[],[],[]⟩ (.reg [(0,{split:=true})]) (.seq .leaf (.join ⟨[(3,.rww 2 1)],[5,11,12,13,14,15,16,17,18,19,20,21,22,23,24,25,26,27],[(2,.ls .tu)],[],[1]⟩ (.blk (.seq .leaf (.join ⟨[(14,.h .tb)],[13],[],[],[]⟩ (.reg [(1,{split:=true,con:=0})]) .leaf))) .leaf)))))) .leaf))) [.h (.tl .tu)] (.h .ts) a = script_quoted a:=by kernel_rfl
noncomputable def script_quoted_c:PCon En:=⟨59,[.h (.tl .tu)],.h .ts,fun a=>script_quoted a,Tryd.call59,fun a v h=>DF_ok rfl En_mixed rfl En_ok Tryd.func59 rfl rfl (by decide) ((script_quoted_dq a).trans h)⟩
theorem script_words_dq (a:HT (Sh.hss [.st (.tp (.ti .i64) K5605)])):DF En GT (cl [itoa_c,script_quoted_c] []) Tryd.f35.ntmps Tryd.f35.results.toList (bodyOf Tryd.f35) (.seq .leaf (.seq .leaf (.seq .leaf (.join ⟨[(4,.h .ts)],[5,6,7,8,9,10],[],[],[]⟩ (.seq .leaf (.blk (.join ⟨[(7,.h .tb)],[8],[],[],[]⟩ (.reg [(1,{split:=true})]) (.cond .leaf (.join ⟨[(9,.h .tb)],[10],[],[],[]⟩ (.reg [(1,{split:=true})]) .leaf))))) (.seq (.seq .leaf (.blk (.join ⟨[(13,.h .tb)],[14],[],[],[]⟩ (.reg [(1,{split:=true})]) (.cond (.seq (.reg [(3,{con:=0})]) .leaf) (.join ⟨[(22,.h .tb)],[23],[],[],[]⟩ (.reg [(1,{split:=true})]) (.cond (.seq (.reg [(3,{con:=0})]) .leaf) (.join ⟨[(29,.h .tb)],[30],[],[],[]⟩ (.reg [(1,{split:=true})]) (.cond (.seq (.reg [(3,{con:=0})]) .leaf) (.join ⟨[(38,.h .tb)],[39],[],[],[]⟩ (.reg [(1,{split:=true})]) (.cond (.seq (.reg [(2,{con:=1})]) .leaf) (.join ⟨[(44,.h .tb)],[45],[],[],[]⟩ (.reg [(1,{split:=true})]) (.cond (.seq (.seq .leaf (.blk (.join ⟨[(49,.h .tb)],[50],[],[],[]⟩ (.reg [(1,{split:=true})]) (.cond (.seq (.reg [(3,{con:=0}),(9,{con:=1})]) .leaf) (.join ⟨[(62,.h .tb)],[63],[],[],[]⟩ (.reg [(1,{split:=true})]) (.cond (.seq (.reg [(3,{con:=0}),(10,{con:=0}),(17,{con:=0})]) .leaf) (.join ⟨[(83,.h .tb)],[84],[],[],[]⟩ (.reg [(1,{split:=true})]) (.cond (.seq (.reg [(3,{con:=0})]) .leaf) .leaf)))))))) (.seq (.reg [(3,{con:=0})]) .leaf)) (.join ⟨[(95,.h .tb)],[96],[],[],[]⟩ (.reg [(1,{split:=true})]) (.cond (.seq (.reg [(3,{con:=0})]) .leaf) (.join ⟨[(102,.h .tb)],[103],[],[],[]⟩ (.reg [(1,{split:=true})]) (.cond (.seq (.reg [(3,{con:=0})]) .leaf) (.join ⟨[(109,.h .tb)],[110],[],[],[]⟩ (.reg [(1,{split:=true})]) (.cond (.seq (.reg [(3,{con:=0}),(9,{con:=0})]) .leaf) (.join ⟨[(122,.h .tb)],[123],[],[],[]⟩ (.reg [(1,{split:=true})]) (.cond (.seq (.reg [(3,{con:=0}),(9,{con:=0})]) .leaf) .leaf)))))))))))))))))))) (.seq (.join ⟨[(137,.h .tb)],[135,136],[],[],[]⟩ (.reg [(2,{split:=true})]) (.cond (.seq (.reg [(3,{con:=0}),(9,{con:=0}),(14,{con:=1})]) .leaf) .leaf)) (.seq (.reg [(3,{con:=0}),(9,{con:=0}),(14,{con:=1})]) .leaf))))))) [.st (.tp (.ti .i64) K5605)] (.h .ts) a = script_words a:=by kernel_rfl
noncomputable def script_words_c:PCon En:=⟨35,[.st (.tp (.ti .i64) K5605)],.h .ts,fun a=>script_words a,Tryd.call35,fun a v h=>DF_ok rfl En_mixed rfl En_ok Tryd.func35 rfl rfl (by decide) ((script_words_dq a).trans h)⟩
theorem script_same_dq (a:HT (Sh.hss [.st (.tp (.ti .i64) K5605),.st (.tp (.ti .i64) K5605)])):DF En GT noC Tryd.f36.ntmps Tryd.f36.results.toList (bodyOf Tryd.f36) (.seq .leaf (.seq (.reg [(5,{split:=true}),(12,{split:=true}),(19,{split:=true}),(26,{split:=true}),(33,{split:=true}),(42,{split:=true}),(51,{split:=true}),(62,{split:=true}),(71,{split:=true})]) .leaf)) [.st (.tp (.ti .i64) K5605),.st (.tp (.ti .i64) K5605)] (.h .tb) a = script_same a.1 a.2:=by kernel_rfl
noncomputable def script_same_c:PCon En:=⟨36,[.st (.tp (.ti .i64) K5605),.st (.tp (.ti .i64) K5605)],.h .tb,fun a=>script_same a.1 a.2,Tryd.call36,fun a v h=>DF_ok rfl En_mixed rfl En_ok Tryd.func36 rfl rfl (by decide) ((script_same_dq a).trans h)⟩
theorem script_Line_dq (a:HT (Sh.hss [.st (.tp (.ti .i64) K5605)])):DF En GT (cl [script_words_c,script_parse_c,script_same_c] []) Tryd.f22.ntmps Tryd.f22.results.toList (bodyOf Tryd.f22) (.seq .leaf (.seq (.join ⟨[(17,.h .tb)],[7,8,9,10,11,12,13,14,15,16],[],[],[]⟩ (.reg [(4,{split:=true}),(10,{split:=true})]) .leaf) (.seq (.reg [(1,{con:=0})]) (.seq (.seq (.reg [(1,{con:=1})]) (.join ⟨[(32,.h .tb)],[25,26,27,28,29,30,31],[],[],[]⟩ (.reg [(2,{split:=true}),(5,{con:=2}),(7,{split:=true})]) .leaf)) .leaf)))) [.st (.tp (.ti .i64) K5605)] (.tup [.h .ts,.h .tb]) a = script_Line a:=by kernel_rfl
noncomputable def script_Line_c:PCon En:=⟨22,[.st (.tp (.ti .i64) K5605)],.tup [.h .ts,.h .tb],fun a=>script_Line a,Tryd.call22,fun a v h=>DF_ok rfl En_mixed rfl En_ok Tryd.func22 rfl rfl (by decide) ((script_Line_dq a).trans h)⟩
theorem script_Fault_Error_dq (a:HT (Sh.hss [.h (.tq (.tp (.ti .i64) (.te 71)))])):DF En GT (cl [isE_c,itoa_c] []) Tryd.f17.ntmps Tryd.f17.results.toList (bodyOf Tryd.f17) (.seq .leaf (.seq (.join ⟨[(12,.h .tb)],[4,5,6,7,8,9,10,11],[],[],[]⟩ (.reg [(2,{split:=true}),(8,{split:=true})]) .leaf) (.seq .leaf (.join ⟨[(3,.h .ts)],[13,14,15,16,17,18,19,20,21,22,23,24,25,26,27,28,29,30,31,32,33,34,35,36,37,38,39,40,41,42,43,44,45,46,47],[],[],[]⟩ (.blk (.join ⟨[(13,.h .tb)],[14,15,16,17,18,19],[],[],[]⟩ (.reg [(5,{con:=0}),(6,{split:=true})]) (.cond .leaf (.join ⟨[(20,.h .tb)],[21,22,23,24,25,26],[],[],[]⟩ (.reg [(5,{con:=0}),(6,{split:=true})]) (.cond .leaf (.join ⟨[(27,.h .tb)],[28,29,30,31,32,33],[],[],[]⟩ (.reg [(5,{con:=0}),(6,{split:=true})]) (.cond .leaf (.join ⟨[(34,.h .tb)],[35,36,37,38,39,40],[],[],[]⟩ (.reg [(5,{con:=0}),(6,{split:=true})]) (.cond .leaf (.join ⟨[(41,.h .tb)],[42,43,44,45,46,47],[],[],[]⟩ (.reg [(5,{con:=0}),(6,{split:=true})]) .leaf)))))))))) (.seq (.reg [(4,{con:=1})]) .leaf))))) [.h (.tq (.tp (.ti .i64) (.te 71)))] (.h .ts) a = script_Fault_Error a:=by kernel_rfl
noncomputable def script_Fault_Error_c:PCon En:=⟨17,[.h (.tq (.tp (.ti .i64) (.te 71)))],.h .ts,fun a=>script_Fault_Error a,Tryd.call17,fun a v h=>DF_ok rfl En_mixed rfl En_ok Tryd.func17 rfl rfl (by decide) ((script_Fault_Error_dq a).trans h)⟩
theorem orielref12_Digits_dq (a:HT (Sh.hss [.h (.ti .i64)])):DF En GT noC Tryd.f19.ntmps Tryd.f19.results.toList (bodyOf Tryd.f19) (.seq .leaf (.seq .leaf (.seq (.blk (.loop ⟨[(0,.h (.ti .i64)),(3,.h .ts)],[4,5,6,7,8,9,10,11,12,13,14,15],[],[],[]⟩ [(.exit 0,⟨[(0,.h (.ti .i64)),(3,.h .ts)],[4,5,6,7,8,9,10,11,12,13,14,15],[],[],[]⟩)] (.seq (.join ⟨[(5,.h .tb)],[4],[],[],[]⟩ (.reg [(1,{split:=true})]) .leaf) .leaf))) .leaf))) [.h (.ti .i64)] (.h .ts) a = orielref12_Digits a:=by kernel_rfl
noncomputable def orielref12_Digits_c:PCon En:=⟨19,[.h (.ti .i64)],.h .ts,fun a=>orielref12_Digits a,Tryd.call19,fun a v h=>DF_ok rfl En_mixed rfl En_ok Tryd.func19 rfl rfl (by decide) ((orielref12_Digits_dq a).trans h)⟩
theorem orielref34_What_dq (a:HT (Sh.hss [.h (.ti .i64)])):DF En GT noC Tryd.f31.ntmps Tryd.f31.results.toList (bodyOf Tryd.f31) (.seq .leaf (.seq (.reg [(2,{sel:=true})]) .leaf)) [.h (.ti .i64)] (.h .ts) a = orielref34_What a:=by kernel_rfl
noncomputable def orielref34_What_c:PCon En:=⟨31,[.h (.ti .i64)],.h .ts,fun a=>orielref34_What a,Tryd.call31,fun a v h=>DF_ok rfl En_mixed rfl En_ok Tryd.func31 rfl rfl (by decide) ((orielref34_What_dq a).trans h)⟩
theorem oriellaw34_told_dq (a:HT (Sh.hss [.h (.to 35 (.tp (.ti .i64) (.te 71)))])):DF En GT (cl [oriellaw34_fault_c,script_Fault_Error_c,orielref12_Digits_c,orielref34_What_c] [asFa_c]) Tryd.f16.ntmps Tryd.f16.results.toList (bodyOf Tryd.f16) (.seq .leaf (.seq .leaf (.seq (.join ⟨[(13,.h .tb)],[6,7,8,9,10,11,12],[],[(0,0,.h (.tq (.tp (.ti .i64) (.te 71))))],[]⟩ (.reg [(2,{io:=some 0}),(4,{split:=true}),(7,{split:=true})]) .leaf) (.seq (.reg [(1,{con:=0})]) (.seq (.reg [(2,{split:=true}),(4,{con:=1}),(6,{con:=2}),(10,{con:=3})]) .leaf))))) [.h (.to 35 (.tp (.ti .i64) (.te 71)))] (.h .tb) a = oriellaw34_told a:=by kernel_rfl
noncomputable def oriellaw34_told_c:PCon En:=⟨16,[.h (.to 35 (.tp (.ti .i64) (.te 71)))],.h .tb,fun a=>oriellaw34_told a,Tryd.call16,fun a v h=>DF_ok rfl En_mixed rfl En_ok Tryd.func16 rfl rfl (by decide) ((oriellaw34_told_dq a).trans h)⟩
theorem oriellaw34_known_dq (a:HT (Sh.hss [])):DF En GT (cl [script_Parse_c,oriellaw34_fault_c,script_Line_c,oriellaw34_told_c] []) Tryd.f11.ntmps Tryd.f11.results.toList (bodyOf Tryd.f11) (.seq .leaf (.seq (.reg [(0,{con:=0})]) (.seq (.reg [(0,{con:=0})]) (.seq (.reg [(0,{con:=0})]) (.seq (.reg [(1,{con:=1})]) (.seq (.reg [(1,{con:=1})]) (.seq (.reg [(1,{con:=2})]) (.seq (.reg [(2,{split:=true}),(7,{split:=true}),(15,{split:=true}),(19,{split:=true}),(23,{split:=true}),(27,{split:=true}),(31,{split:=true}),(34,{split:=true}),(38,{split:=true}),(40,{con:=3}),(42,{split:=true}),(44,{con:=3})]) .leaf)))))))) [] (.h .tb) a = oriellaw34_known_raw:=by kernel_rfl
noncomputable def oriellaw34_known_c:PCon En:=⟨11,[],.h .tb,fun a=>oriellaw34_known,Tryd.call11,fun a v h=>DF_ok rfl En_mixed rfl En_ok Tryd.func11 rfl rfl (by decide) ((oriellaw34_known_dq a).trans (oriellaw34_known_law  h))⟩
end Go.SH
set_option maxRecDepth 100000
set_option maxHeartbeats 400000
namespace Go.Proofs.Sp
open Go.RowKit
structure Box (p:Prop):Prop where
  out:p
structure EvC where
  (c0 c1 c2 c3 c4 c5 c6 c7 c8 c9:Value)
end Go.Proofs.Sp
namespace Go.SH
theorem w64 (x:Int):IntKind.i64.wrap x = (x + 9223372036854775808) % 18446744073709551616 - 9223372036854775808:=by
  simp [IntKind.wrap,IntKind.signed,IntKind.bits]
  omega
theorem w64id {x:Int} (h:-9223372036854775808 ≤ x ∧ x ≤ 9223372036854775807):IntKind.i64.wrap x = x:=by rw [w64];omega
theorem dec_t {p:Prop} [Decidable p] (h:p):decide p = true:=by simp [h]
theorem dec_f {p:Prop} [Decidable p] (h:¬ p):decide p = false:=by simp [h]
theorem boolO (b:Bool):(bif b then some true else some false:Option Bool) = some b:=by cases b <;> rfl
end Go.SH
namespace Go.SH
theorem u8v {n:Int} (h:0 ≤ n ∧ n < 256):((UInt8.ofInt n).toNat:Int) = n:=by
  simp [UInt8.ofInt]
  omega
open Lib in
theorem dd_small {u:Nat} (h:u < 10):decDigits u = [UInt8.ofNat (48 + u)]:=by rw [decDigits,dif_pos h]
open Lib in
theorem dd_big {u:Nat} (h:¬ u < 10):decDigits u = decDigits (u / 10) ++ [UInt8.ofNat (48 + u % 10)]:=by rw [decDigits,dif_neg h]
theorem dig_toNat {d:Nat} (h:d < 10):(UInt8.ofNat (48 + d)).toNat = 48 + d:=by simp;omega
theorem dig_int {d:Nat} (h:d < 10):UInt8.ofInt (IntKind.u8.wrap (IntKind.i64.wrap ((48:Int) + (d:Int)))) = UInt8.ofNat (48 + d):=by
  rw [w64id (by omega),show IntKind.u8.wrap ((48:Int) + (d:Int)) = ((48 + d:Nat):Int) from by simp [IntKind.wrap,IntKind.signed,IntKind.bits];omega]
  apply UInt8.toNat_inj.1
  have:=u8v (n:=((48 + d:Nat):Int)) (by omega)
  rw [dig_toNat h]
  omega
open Lib in
theorem Digits_loop:∀ (u:Nat) (acc:List UInt8),u < 9223372036854775807 → acc.length < 4611686018427387904 - u → ∃ (q:Nat) (acc':List UInt8),loopO orielref12_Digits_loop1 ((u:Int),acc) = some ((q:Int),acc') ∧ q < 10 ∧ acc'.length < 4611686018427387904 ∧ UInt8.ofNat (48 + q) :: acc' = decDigits u ++ acc:=by
  intro u
  induction u using Nat.strongRecOn with
  | _ u ih=>
    intro acc hu ha
    by_cases h:u < 10
    · have hst:orielref12_Digits_loop1 ((u:Int),acc) = some (.inl ((u:Int),acc)):=by
        unfold orielref12_Digits_loop1
        simp only [boolO,Option.bind_some]
        rw [dec_f (by omega)];rfl
      rw [loopO_eq,hst]
      exact ⟨u,acc,rfl,h,by omega,by rw [dd_small h];rfl⟩
    · have hst:orielref12_Digits_loop1 ((u:Int),acc) = some (.inr (((u / 10:Nat):Int),[UInt8.ofNat (48 + u % 10)] ++ acc)):=by
        unfold orielref12_Digits_loop1
        simp only [boolO,Option.bind_some]
        rw [dec_t (by omega)]
        simp only [cond_true]
        rw [show Int.tmod (u:Int) 10 = ((u % 10:Nat):Int) from by rw [Int.tmod_eq_emod_of_nonneg (by omega)];omega,show Int.tdiv (u:Int) 10 = ((u / 10:Nat):Int) from by rw [Int.tdiv_eq_ediv_of_nonneg (by omega)];omega,dig_int (by omega),w64id (by omega),req_pos (by simp;omega)]
      rw [loopO_eq,hst]
      obtain ⟨q,acc',e1,e2,e3,e4⟩:=ih (u / 10) (by omega) ([UInt8.ofNat (48 + u % 10)] ++ acc) (by omega) (by simp;omega)
      exact ⟨q,acc',e1,e2,e3,by rw [e4,dd_big h];simp⟩
theorem Digits_eq {n:Int} (h0:0 ≤ n) (h1:n < 2305843009213693952):orielref12_Digits n = some (Lib.decDigits n.toNat):=by
  unfold orielref12_Digits
  obtain ⟨u,rfl⟩:∃ u:Nat,n = (u:Int):=⟨n.toNat,by omega⟩
  obtain ⟨q,acc',e1,e2,e3,e4⟩:=Digits_loop u [] (by omega) (by simp;omega)
  rw [e1,Option.bind_some]
  simp only
  rw [dig_int e2,req_pos (by simp;omega)]
  simp at e4 ⊢
  exact e4
end Go.SH
namespace Go.SH
open Lib (decDigits)
theorem nd_le {u k:Nat} (h:u < 10 ^ k) (hk:1 ≤ k):(decDigits u).length ≤ k:=by
  induction k generalizing u with
  | zero=>omega
  | succ k ih=>
    by_cases h1:u < 10
    · rw [dd_small h1];simp
    · rw [dd_big h1]
      simp only [List.length_append,List.length_cons,List.length_nil]
      have hk2:1 ≤ k:=by
        rcases Nat.eq_zero_or_pos k with h0 | h0
        · subst h0;simp at h;omega
        · exact h0
      have:=ih (u:=u / 10) (by rw [Nat.pow_succ] at h;omega) hk2
      omega
end Go.SH
namespace Go.SH
def plainB (b:UInt8):Bool:=decide (32 ≤ b.toNat) && (decide (b.toNat ≤ 126) && (!(b == 34) && !(b == 92)))
end Go.SH
namespace Go.SH
abbrev WdT:=Int × List UInt8
abbrev DdT:=Int × List UInt8 × Int × Int
abbrev EvT:=Int × Int × Int × Int × Int × DdT × List UInt8
end Go.SH
namespace Go.SH
open Go.RowKit
/-- Arguments that nobody writes. -/
def av0:Nat → Prop:=avo (fun _=>False) sig0 []
theorem av0_no (β:Nat):¬ av0 β:=by
  rintro (h | h)
  · exact h
  · exact avz h
/-- A law's run: it answers true, and what was there stays. -/
theorem law_calls {E:Env} {f:FuncId} {args:List PV} (h:Pure E f args (.bool true)) (w:World) (cargs:Array Value) (hl:cargs.size = args.length)
    (hv:∀ (i:Nat) (x:PV) (u:Value),args[i]? = some x → cargs[i]? = some u → VR w sig0 av0 x u)
    (hg:∀ g cells,lget E.G g = some cells → VR w sig0 av0 (.rop cells 0) (.pointer (some ⟨g,0,none⟩))) :
    Calls E.P f cargs w fun e w'=>e = .returned (.bool true) ∧ Below w.heap.size w w':=by
  have:=h (fun _=>False) w sig0 cargs.toList (by simpa using hl) (fun i x u hx hu=>hv i x u hx (by simpa using hu)) (BR0 fun _ h=>h.elim) hg
  refine this.mono ?_
  rintro e w' ⟨r,c,L',σ',rfl,⟨rfl,rfl⟩,hvr,_,hgr⟩
  cases hvr
  refine ⟨rfl,hgr.out.1,hgr.out.2.2,hgr.out.2.1,hgr.size,fun k hk=>(hgr.keep k hk avz).2⟩
inductive VRs (w:World) (σ:Sig) (av:Nat → Prop):List PV → List Value → Prop where
  | nil:VRs w σ av [] []
  | cons {x:PV} {v:Value} {xs:List PV} {vs:List Value} (h:VR w σ av x v) (r:VRs w σ av xs vs):VRs w σ av (x :: xs) (v :: vs)
theorem VRs.get {w:World} {σ:Sig} {av:Nat → Prop} {xs:List PV} {cs:List Value} (h:VRs w σ av xs cs):xs.length = cs.length ∧ ∀ (i:Nat) (x:PV) (v:Value),xs[i]? = some x → cs[i]? = some v → VR w σ av x v:=by
  induction h with
  | nil=>simp
  | cons h _ ih=>
    refine ⟨by simp [ih.1],fun i x v hx hv=>?_⟩
    cases i with
    | zero=>simp at hx hv;subst hx;subst hv;exact h
    | succ i=>exact ih.2 i x v (by simpa using hx) (by simpa using hv)
/-- A law's run, its arguments one by one. -/
theorem law_calls' {E:Env} {f:FuncId} {args:List PV} (h:Pure E f args (.bool true)) (w:World) (cargs:List Value) (hv:VRs w sig0 av0 args cargs)
    (hg:∀ g cells,lget E.G g = some cells → VR w sig0 av0 (.rop cells 0) (.pointer (some ⟨g,0,none⟩))) :
    Calls E.P f cargs.toArray w fun e w'=>e = .returned (.bool true) ∧ Below w.heap.size w w':=
  law_calls h w cargs.toArray (by simpa using hv.get.1.symm) (fun i x u hx hu=>hv.get.2 i x u hx (by simpa using hu)) hg
end Go.SH
set_option maxRecDepth 100000
namespace Go.SH
open Go.Proofs Go.RowKit
variable [Sent34]
abbrev KEv0:ET:=.tp (.ti .i64) K5605
end Go.SH
set_option maxRecDepth 100000
set_option maxHeartbeats 1000000
namespace Go.Proofs.Sp
open Go.RowKit Go.Extern.Stop Go.Stop Go.Extern
theorem run_sameAddr_own {P:Program} (w:World) {a b:Addr} {ca cb:Array Value} {ta tb:TypeId} {fr:Nat × Nat} (hz:ca.size ≠ 0) (hne:a.block ≠ b.block) (ha:w.heap[a.block]? = some (.cells ca ta fr)) (hb:w.heap[b.block]? = some (.cells cb tb (0,0))) :
    (sameAddr a b).run P w = .ok false w:=by
  by_cases h1:fr.1 ≤ a.off ∧ a.off < fr.2
  · simp [sameAddr,hne,World.frozen?,ha,hb,noView,viewAt,World.shape?,mayBeOne,stringish,h1]
    intro h
    split at h
    · rename_i e;simp at e;exact (hz (by rw [e.2];rfl)).elim
    · simp at h
  · by_cases h2:fr.1 ≤ ca.size ∧ ca.size < fr.2
    · simp [sameAddr,hne,World.frozen?,ha,hb,noView,viewAt,World.shape?,mayBeOne,stringish,h1,h2]
      intro h
      split at h
      · rename_i e;simp at e;exact (hz (by rw [e.2];rfl)).elim
      · simp at h
    · simp [sameAddr,hne,World.frozen?,ha,hb,noView,viewAt,World.shape?,mayBeOne,stringish,h1,h2]
theorem run_equalIn_own {P:Program} (w:World) (d:Nat) {ti tp te:TypeId} {ms:Array (String × TypeId)} {i j:TypeInfo} {a b:Addr} {ca cb:Array Value} {ta tb:TypeId} {fr:Nat × Nat} (hz:ca.size ≠ 0)
    (hi:P.underlying ti = some (.interface ms)) (hp:P.underlying tp = some (.pointer te)) (hinfo:P.info? tp = some i) (hcomp:i.comparable = true) (hte:P.info? te = some j) (hsz:j.size ≠ 0)
    (hne:a.block ≠ b.block) (ha:w.heap[a.block]? = some (.cells ca ta fr)) (hb:w.heap[b.block]? = some (.cells cb tb (0,0))) :
    (Op.equalIn (d + 2) ti (.iface tp (.pointer (some a))) (.iface tp (.pointer (some b)))).run P w = .ok false w:=by
  simp [Op.equalIn,run_underlying hi,run_underlying hp,typeInfo,hinfo,hcomp,sizeOf,hte,hsz,run_sameAddr_own w hz hne ha hb]
theorem run_eql_own {P:Program} (w:World) {ti tp te:TypeId} {ms:Array (String × TypeId)} {i j:TypeInfo} {a b:Addr} {ca cb:Array Value} {ta tb:TypeId} {fr:Nat × Nat} (hz:ca.size ≠ 0)
    (hi:P.underlying ti = some (.interface ms)) (hp:P.underlying tp = some (.pointer te)) (hinfo:P.info? tp = some i) (hcomp:i.comparable = true) (hte:P.info? te = some j) (hsz:j.size ≠ 0)
    (hne:a.block ≠ b.block) (ha:w.heap[a.block]? = some (.cells ca ta fr)) (hb:w.heap[b.block]? = some (.cells cb tb (0,0))) :
    (binOp .eql ti (.iface tp (.pointer (some a))) (.iface tp (.pointer (some b)))).run P w = .ok (.bool false) w:=by
  simp only [binOp]
  simp [Op.equal,Op.maxDepth,run_equalIn_own w 9998 hz hi hp hinfo hcomp hte hsz hne ha hb]
theorem is_own (a b:Addr) (ca cb:Array Value) (ta tb:TypeId) (fr:Nat × Nat) (w:World) (hz:ca.size ≠ 0) (hne:a.block ≠ b.block) (ha:w.heap[a.block]? = some (.cells ca ta fr)) (hb:w.heap[b.block]? = some (.cells cb tb (0,0))) :
    Calls Tryd.prog 21 #[.iface 71 (.pointer (some a)),.iface 71 (.pointer (some b))] w fun e w'=>e = .returned (.bool false) ∧ w' = w:=by
  obtain ⟨i,hi,hcmp⟩:=Option.map_eq_some_iff.1 isComp
  obtain ⟨j,hj,hjs⟩:=Option.map_eq_some_iff.1 isSize
  have tT:=isTypeOf
  have cT:=isComparable
  have mR:=isMethodComparable
  have nE:=noIsE
  have uE:=noUnwrapE
  have vE:=noUnwrapsE
  have heq:=run_eql_own (P:=Tryd.prog) w hz Tryd.underlying25 Tryd.underlying71 hi hcmp hj (by rw [hjs];decide) hne ha hb
  go_enter Tryd.func21,Tryd.ntmps21
  go_wp2
  refine wp_loop_rounds 1 ?_
  rw [rounds_succ]
  go_wp2
  go_ret
  exact ⟨rfl,rfl⟩
theorem is_wrap2_same (pb po qb qo:Nat) (b:Addr) (w:World) (h1:w.cell? ⟨pb,po + 1,none⟩ = some (.iface 35 (.pointer (some ⟨qb,qo,none⟩)))) (h2:w.cell? ⟨qb,qo + 1,none⟩ = some (.iface 71 (.pointer (some b)))) :
    Calls Tryd.prog 21 #[.iface 35 (.pointer (some ⟨pb,po,none⟩)),.iface 71 (.pointer (some b))] w fun e w'=>e = .returned (.bool true) ∧ w' = w:=by
  obtain ⟨i,hi,hcmp⟩:=Option.map_eq_some_iff.1 isComp
  obtain ⟨j,hj,hjs⟩:=Option.map_eq_some_iff.1 isSize
  have tT:=isTypeOf
  have cT:=isComparable
  have mR:=isMethodComparable
  have nE:=noIsE
  have uE:=noUnwrapE
  have vE:=noUnwrapsE
  have nW:=noIsW
  have uW:=hasUnwrapW
  have mU:=methodUnwrap
  have heq:=run_eql_iface_ptr_same (P:=Tryd.prog) w b Tryd.underlying25 Tryd.underlying71 hi hcmp hj
  have hty:=run_eql_iface_types (P:=Tryd.prog) 35 71 (.pointer (some ⟨pb,po,none⟩)) (.pointer (some b)) Tryd.underlying25 (by decide) w
  have hty2:=run_eql_iface_types (P:=Tryd.prog) 35 71 (.pointer (some ⟨qb,qo,none⟩)) (.pointer (some b)) Tryd.underlying25 (by decide) w
  go_enter Tryd.func21,Tryd.ntmps21
  go_wp2
  refine wp_loop_rounds 3 ?_
  rw [rounds_succ]
  go_wp2
  rw [rounds_succ]
  go_wp2
  rw [rounds_succ]
  go_wp2
  go_ret
  exact ⟨rfl,rfl⟩
theorem is_wrap2_other (pb po qb qo:Nat) (b a:Addr) (ca cb:Array Value) (ta tb:TypeId) (w:World) (h1:w.cell? ⟨pb,po + 1,none⟩ = some (.iface 35 (.pointer (some ⟨qb,qo,none⟩)))) (h2:w.cell? ⟨qb,qo + 1,none⟩ = some (.iface 71 (.pointer (some a))))
    (hne:a ≠ b) (ha:w.heap[a.block]? = some (.cells ca ta (0,0))) (hb:w.heap[b.block]? = some (.cells cb tb (0,0))) :
    Calls Tryd.prog 21 #[.iface 35 (.pointer (some ⟨pb,po,none⟩)),.iface 71 (.pointer (some b))] w fun e w'=>e = .returned (.bool false) ∧ w' = w:=by
  obtain ⟨i,hi,hcmp⟩:=Option.map_eq_some_iff.1 isComp
  obtain ⟨j,hj,hjs⟩:=Option.map_eq_some_iff.1 isSize
  have tT:=isTypeOf
  have cT:=isComparable
  have mR:=isMethodComparable
  have nE:=noIsE
  have uE:=noUnwrapE
  have vE:=noUnwrapsE
  have nW:=noIsW
  have uW:=hasUnwrapW
  have mU:=methodUnwrap
  have heq:=run_eql_iface_ptr_other (P:=Tryd.prog) w Tryd.underlying25 Tryd.underlying71 hi hcmp hj (by rw [hjs];decide) hne ha hb
  have hty:=run_eql_iface_types (P:=Tryd.prog) 35 71 (.pointer (some ⟨pb,po,none⟩)) (.pointer (some b)) Tryd.underlying25 (by decide) w
  have hty2:=run_eql_iface_types (P:=Tryd.prog) 35 71 (.pointer (some ⟨qb,qo,none⟩)) (.pointer (some b)) Tryd.underlying25 (by decide) w
  go_enter Tryd.func21,Tryd.ntmps21
  go_wp2
  refine wp_loop_rounds 3 ?_
  rw [rounds_succ]
  go_wp2
  rw [rounds_succ]
  go_wp2
  rw [rounds_succ]
  go_wp2
  go_ret
  exact ⟨rfl,rfl⟩
end Go.Proofs.Sp
namespace Go.SH
open Go.Proofs
def isN (t:Option Nat):Option Bool:=t.bind fun _=>some false
def isP (t e:Option Nat):Option Bool:=isE e t
variable [Sent34]
theorem isN_calls {s:List UInt8} {t:Option Nat} {v:Bool} (h:isN t = some v):ACalls En 21 [.iface 71 (.ptr 0 0),.ev 71 (t.map SentA.f)] [(0,some [.str s])] fun r L=>r = .bool v ∧ L = [(0,some [.str s])]:=by
  cases t with
  | none=>simp [isN] at h
  | some b=>
    simp [isN] at h;subst h
    intro A w σ cargs hl hv hbr hg
    obtain ⟨u,u',rfl⟩:=cells2 hl
    have hu:=hv 0 _ u rfl rfl
    obtain ⟨rfl,hy⟩:=(hv 1 _ u' rfl rfl).ev_inv
    cases hu with
    | iface _ p hp=>
      cases hp with
      | @ptr _ _ β add size hs=>
        rcases hbr.all 0 [.str s] (by rfl) with ⟨h3,_⟩ | ⟨β',add',size',c,T,fr,hB⟩
        · rw [hs] at h3;simp at h3
        · have:=hB.sig;rw [hs] at this;simp at this
          obtain ⟨rfl,rfl,rfl⟩:=this
          obtain ⟨cb,tb,hb⟩:=(hy _ rfl).heap
          have hne:β ≠ (SentA.f b).block:=fun e=>(hy _ rfl).na (.inr (.inl ⟨0,_,_,_,rfl,by rw [← e];exact hs⟩))
          refine (Go.Proofs.Sp.is_own ⟨β,add + 0,none⟩ (SentA.f b) c cb T tb fr w (by have h5:=hB.fits;have h6:=hB.hsz;rw [h6];simp only [List.length_singleton] at h5;omega) hne hB.heap hb).mono ?_
          rintro e w' ⟨rfl,rfl⟩
          exact ⟨_,_,_,σ,rfl,⟨rfl,rfl⟩,.bool _,hbr,Grow.refl _ _ _ _⟩
theorem isP_calls {n:Int} {t e:Option Nat} {v:Bool} (h:isP t e = some v):ACalls En 21 [.iface 35 (.ptr 0 0),.ev 71 (t.map SentA.f)] [(0,some [.int .i64 n,.ev 71 (e.map SentA.f)])] fun r L=>r = .bool v ∧ L = [(0,some [.int .i64 n,.ev 71 (e.map SentA.f)])]:=by
  cases t with
  | none=>simp [isP,isE] at h
  | some b=>
    simp [isP,isE] at h;subst h
    intro A w σ cargs hl hv hbr hg
    obtain ⟨u,u',rfl⟩:=cells2 hl
    have hu:=hv 0 _ u rfl rfl
    obtain ⟨rfl,hy⟩:=(hv 1 _ u' rfl rfl).ev_inv
    cases hu with
    | iface _ p hp=>
      cases hp with
      | @ptr _ _ β add size hs=>
        rcases hbr.all 0 _ (by rfl) with ⟨h3,_⟩ | ⟨β',add',size',c,T,fr,hB⟩
        · rw [hs] at h3;simp at h3
        · have:=hB.sig;rw [hs] at this;simp at this
          obtain ⟨rfl,rfl,rfl⟩:=this
          obtain ⟨cb,tb,hb⟩:=(hy _ rfl).heap
          obtain ⟨v1,hc1,hv1⟩:=hB.vals 1 _ rfl
          obtain ⟨rfl,hk⟩:=hv1.ev_inv
          have h1:w.cell? ⟨β,add + 0 + 1,none⟩ = some (evV 71 (e.map SentA.f)):=(cell_of_heap hB.heap).trans hc1
          cases e with
          | none=>
            refine (Go.Proofs.Sp.is_wrap_nil β (add + 0) _ w h1).mono ?_
            rintro e w' ⟨rfl,rfl⟩
            exact ⟨_,_,_,σ,rfl,⟨rfl,rfl⟩,.bool _,hbr,Grow.refl _ _ _ _⟩
          | some a=>
            by_cases hab:a = b
            · subst hab
              refine (Go.Proofs.Sp.is_wrap_same β (add + 0) _ w h1).mono ?_
              rintro e w' ⟨rfl,rfl⟩
              exact ⟨_,_,_,σ,rfl,⟨by simp,rfl⟩,.bool _,hbr,Grow.refl _ _ _ _⟩
            · obtain ⟨ca,ta,ha⟩:=(hk _ rfl).heap
              refine (Go.Proofs.Sp.is_wrap_other β (add + 0) _ _ ca cb ta tb w h1 (fun e=>hab (SentA.inj _ _ e)) ha hb).mono ?_
              rintro e w' ⟨rfl,rfl⟩
              exact ⟨_,_,_,σ,rfl,⟨by simp [hab],rfl⟩,.bool _,hbr,Grow.refl _ _ _ _⟩
theorem isPP_calls {n m:Int} {t e:Option Nat} {v:Bool} (h:isP t e = some v) (he:e ≠ none):ACalls En 21 [.iface 35 (.ptr 0 0),.ev 71 (t.map SentA.f)] [(0,some [.int .i64 n,.iface 35 (.ptr 1 0)]),(1,some [.int .i64 m,.ev 71 (e.map SentA.f)])]
    fun r L=>r = .bool v ∧ L = [(0,some [.int .i64 n,.iface 35 (.ptr 1 0)]),(1,some [.int .i64 m,.ev 71 (e.map SentA.f)])]:=by
  cases t with
  | none=>simp [isP,isE] at h
  | some b=>
    simp [isP,isE] at h;subst h
    intro A w σ cargs hl hv hbr hg
    obtain ⟨u,u',rfl⟩:=cells2 hl
    have hu:=hv 0 _ u rfl rfl
    obtain ⟨rfl,hy⟩:=(hv 1 _ u' rfl rfl).ev_inv
    cases hu with
    | iface _ p hp=>
      cases hp with
      | @ptr _ _ β add size hs=>
        rcases hbr.all 0 _ (by rfl) with ⟨h3,_⟩ | ⟨β',add',size',c,T,fr,hB⟩
        · rw [hs] at h3;simp at h3
        have:=hB.sig;rw [hs] at this;simp at this
        obtain ⟨rfl,rfl,rfl⟩:=this
        rcases hbr.all 1 _ (by rfl) with ⟨_,h3⟩ | ⟨γ,dd,sz,c2,T2,fr2,hC⟩
        · simp at h3
        obtain ⟨cb,tb,hb⟩:=(hy _ rfl).heap
        obtain ⟨v1,hc1,hv1⟩:=hB.vals 1 _ rfl
        cases hv1 with
        | iface _ q hq=>
          cases hq with
          | @ptr _ _ γ' dd' sz' hs'=>
            have:=hC.sig;rw [hs'] at this;simp at this
            obtain ⟨rfl,rfl,rfl⟩:=this
            obtain ⟨v2,hc2,hv2⟩:=hC.vals 1 _ rfl
            obtain ⟨rfl,hk⟩:=hv2.ev_inv
            have h1:w.cell? ⟨β,add + 0 + 1,none⟩ = some (.iface 35 (.pointer (some ⟨γ',dd' + 0,none⟩))):=(cell_of_heap hB.heap).trans hc1
            have h2:w.cell? ⟨γ',dd' + 0 + 1,none⟩ = some (evV 71 (e.map SentA.f)):=(cell_of_heap hC.heap).trans hc2
            cases e with
            | none=>exact absurd rfl he
            | some a=>
              by_cases hab:a = b
              · subst hab
                refine (Go.Proofs.Sp.is_wrap2_same β (add + 0) γ' (dd' + 0) _ w h1 h2).mono ?_
                rintro e w' ⟨rfl,rfl⟩
                exact ⟨_,_,_,σ,rfl,⟨by simp,rfl⟩,.bool _,hbr,Grow.refl _ _ _ _⟩
              · obtain ⟨ca,ta,ha⟩:=(hk _ rfl).heap
                refine (Go.Proofs.Sp.is_wrap2_other β (add + 0) γ' (dd' + 0) _ _ ca cb ta tb w h1 h2 (fun e=>hab (SentA.inj _ _ e)) ha hb).mono ?_
                rintro e w' ⟨rfl,rfl⟩
                exact ⟨_,_,_,σ,rfl,⟨by simp [hab],rfl⟩,.bool _,hbr,Grow.refl _ _ _ _⟩
def isN_ar:List Sh:=[.iface 71 (.ptr 0 0),.h (.te 71)]
def isN_ls:List (Nat × LSh):=[(0,.cs [.h .ts])]
def isP_ar:List Sh:=[.iface 35 (.ptr 0 0),.h (.te 71)]
def isP_ls:List (Nat × LSh):=[(0,.cs [.h (.ti .i64),.h (.te 71)])]
def isPP_ls:List (Nat × LSh):=[(0,.cs [.h (.ti .i64),.iface 35 (.ptr 1 0)]),(1,.cs [.h (.ti .i64),.h (.te 71)])]
def isB_ot:Tm:=⟨[(0,.h .tb)],[],[],[],[]⟩
def isPP (t e:Option Nat):Option Bool:=e.bind fun _=>isP t e
noncomputable def isN_c:ICon En:=⟨21,isN_ar,isN_ls,isB_ot,fun a=>isN a.1,Tryd.call21,fun a v h=>isN_calls h⟩
noncomputable def isP_c:ICon En:=⟨21,isP_ar,isP_ls,isB_ot,fun a=>isP a.1 a.2.2,Tryd.call21,fun a v h=>isP_calls h⟩
noncomputable def isPP_c:ICon En:=⟨21,isP_ar,isPP_ls,isB_ot,fun a=>isPP a.1 a.2.2.2,Tryd.call21,fun a v h=>by
  obtain ⟨t,n,m,e⟩:=a
  cases e with
  | none=>simp [isPP] at h
  | some k=>
    have h':isP t (some k) = some v:=h
    exact isPP_calls h' (by simp)⟩
end Go.SH
set_option maxRecDepth 100000
namespace Go.SH
noncomputable def script_Fault_Error_784 :Option (List UInt8):=some ([])
noncomputable def script_Fault_Unwrap_784 :Option (Unit):=some ()
noncomputable def script_Fault_Error_d52 :Option (List UInt8):=some ([])
noncomputable def script_Fault_Unwrap_d52 :Option (Unit):=some ()
noncomputable def errors_New_6f3 (a0:List UInt8):Option (List UInt8):=some a0
noncomputable def script_Fault_Error_af6 (a0:Int) (a2:Option Nat):Option (List UInt8):=(((isP (some 3) a2).bind fun x17=>bif x17 then some true else some false:Option (Bool)).bind fun x18=>bif x18 then some lit_5cf80 else ((isP (some 1) a2).bind fun x20=>bif x20 then some true else some false:Option (Bool)).bind fun x21=>bif x21 then some ([119,111,114,100]) else ((isP (some 4) a2).bind fun x23=>bif x23 then some true else some false:Option (Bool)).bind fun x24=>bif x24 then some ([110,117,109,98,101,114]) else ((isP (some 0) a2).bind fun x26=>bif x26 then some true else some false:Option (Bool)).bind fun x27=>bif x27 then some ([116,101,120,116]) else ((isP (some 2) a2).bind fun x29=>bif x29 then some true else some false:Option (Bool)).bind fun x30=>bif x30 then some lit_28e3a else some ([]):Option (List UInt8)).bind fun x31=>(itoa a0).bind fun x32=>req ([108,105,110,101,32].length + x32.length ≤ 9223372036854775807) <| req (([108,105,110,101,32] ++ x32).length + [58,32].length ≤ 9223372036854775807) <| req ((([108,105,110,101,32] ++ x32) ++ [58,32]).length + x31.length ≤ 9223372036854775807) <| some ((([108,105,110,101,32] ++ x32) ++ [58,32]) ++ x31)
noncomputable def script_Fault_Error_909 (a0:Int):Option (List UInt8):=(((isN (some 3)).bind fun x17=>bif x17 then some true else some false:Option (Bool)).bind fun x18=>bif x18 then some lit_5cf80 else ((isN (some 1)).bind fun x20=>bif x20 then some true else some false:Option (Bool)).bind fun x21=>bif x21 then some ([119,111,114,100]) else ((isN (some 4)).bind fun x23=>bif x23 then some true else some false:Option (Bool)).bind fun x24=>bif x24 then some ([110,117,109,98,101,114]) else ((isN (some 0)).bind fun x26=>bif x26 then some true else some false:Option (Bool)).bind fun x27=>bif x27 then some ([116,101,120,116]) else ((isN (some 2)).bind fun x29=>bif x29 then some true else some false:Option (Bool)).bind fun x30=>bif x30 then some lit_28e3a else some ([]):Option (List UInt8)).bind fun x31=>(itoa a0).bind fun x32=>req ([108,105,110,101,32].length + x32.length ≤ 9223372036854775807) <| req (([108,105,110,101,32] ++ x32).length + [58,32].length ≤ 9223372036854775807) <| req ((([108,105,110,101,32] ++ x32) ++ [58,32]).length + x31.length ≤ 9223372036854775807) <| some ((([108,105,110,101,32] ++ x32) ++ [58,32]) ++ x31)
noncomputable def script_Fault_Error_089 (a0:Int) (a1:Option Nat):Option (List UInt8):=(bif a1.isNone then some true else some false:Option (Bool)).bind fun x1=>bif x1 then some ([]) else (((isE a1 (some 3)).bind fun x18=>bif x18 then some true else some false:Option (Bool)).bind fun x19=>bif x19 then some lit_5cf80 else ((isE a1 (some 1)).bind fun x21=>bif x21 then some true else some false:Option (Bool)).bind fun x22=>bif x22 then some ([119,111,114,100]) else ((isE a1 (some 4)).bind fun x24=>bif x24 then some true else some false:Option (Bool)).bind fun x25=>bif x25 then some ([110,117,109,98,101,114]) else ((isE a1 (some 0)).bind fun x27=>bif x27 then some true else some false:Option (Bool)).bind fun x28=>bif x28 then some ([116,101,120,116]) else ((isE a1 (some 2)).bind fun x30=>bif x30 then some true else some false:Option (Bool)).bind fun x31=>bif x31 then some lit_28e3a else some ([]):Option (List UInt8)).bind fun x32=>(itoa a0).bind fun x33=>req ([108,105,110,101,32].length + x33.length ≤ 9223372036854775807) <| req (([108,105,110,101,32] ++ x33).length + [58,32].length ≤ 9223372036854775807) <| req ((([108,105,110,101,32] ++ x33) ++ [58,32]).length + x32.length ≤ 9223372036854775807) <| some ((([108,105,110,101,32] ++ x33) ++ [58,32]) ++ x32)
noncomputable def oriellaw34_ScriptFaults (a0:Int):Option (Bool):=(bif decide (a0 < 0) then some true else bif decide (a0 > 1099511627776) then some true else some false:Option (Bool)).bind fun x1=>bif x1 then (oriellaw34_known).bind fun x2=>some x2 else ((script_Fault_Error_784).bind fun x5=>bif !((x5:List UInt8) == []) then some true else (script_Fault_Unwrap_784).bind fun _=>(script_Fault_Error_d52).bind fun x6=>bif !((x6:List UInt8) == []) then some true else (script_Fault_Unwrap_d52).bind fun _=>some false:Option (Bool)).bind fun x7=>bif x7 then some false else (orielref12_Digits a0).bind fun x8=>req ([108,105,110,101,32].length + x8.length ≤ 9223372036854775807) <| req (([108,105,110,101,32] ++ x8).length + [58,32].length ≤ 9223372036854775807) <| (errors_New_6f3 [111,116,104,101,114]).bind fun x9=>(script_Fault_Error_af6 a0 (some 0)).bind fun x10=>req ((([108,105,110,101,32] ++ x8) ++ [58,32]).length + [116,101,120,116].length ≤ 9223372036854775807) <| bif (x10:List UInt8) == ((([108,105,110,101,32] ++ x8) ++ [58,32]) ++ [116,101,120,116]) then (isPP (some 0) (some 0)).bind fun x11=>bif x11 then (isPP (some 1) (some 0)).bind fun x12=>bif !x12 then (script_Fault_Error_909 a0).bind fun x13=>bif (x13:List UInt8) == (([108,105,110,101,32] ++ x8) ++ [58,32]) then (script_Fault_Error_089 a0 (some 2)).bind fun x14=>req ((([108,105,110,101,32] ++ x8) ++ [58,32]).length + lit_28e3a.length ≤ 9223372036854775807) <| bif (x14:List UInt8) == ((([108,105,110,101,32] ++ x8) ++ [58,32]) ++ lit_28e3a) then (oriellaw34_known).bind fun x15=>some x15 else some false else some false else some false else some false else some false
end Go.SH
