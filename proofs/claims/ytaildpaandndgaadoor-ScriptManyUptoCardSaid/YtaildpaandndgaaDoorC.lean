/- Part 3 of: ScriptMany, the second form -/
import Derived.Test.YtaildpaandndgaaDoorB
import Derived.Lib.ItoaNum
import Derived.Lib.Bytealg
import Derived.KernelRfl
import Derived.Shelf.Small.Strs
import Derived.Shelf.LaysM
import Derived.Shelf.Strconv.Itoa3
import Derived.Shelf.Strings.Search1
import Derived.Test.YtaildpaandndgaaDoorProg
import Derived.WalkKit
import Derived.LaidEql
import Derived.Stop.Asserts
import Derived.RowKitTokens
set_option linter.unusedVariables false
set_option linter.unusedSimpArgs false
set_option linter.unusedSectionVars false
namespace Go.SH
/-- More blocks behind the heap. -/
theorem BR.more {w w':World} {σ:Sig} {A:Nat → Prop} {L:Lb} (h:BR w σ A L) (hs:w.heap.size ≤ w'.heap.size) (hh:∀ β,β < w.heap.size → w'.heap[β]? = w.heap[β]?) (ho:w'.os = w.os ∧ w'.output = w.output ∧ w'.tape = w.tape) :
    BR w' σ A L ∧ Grow top w σ L w' σ L:=by
  have hg:Grow top w σ L w' σ L:=⟨hs,fun _ _ _ h=>h,fun β hb hn=>⟨hn,hh β hb⟩,ho,fun _ q β add hq=>⟨hq,hh β (h.fr.fam q β add hq).1⟩⟩
  refine ⟨⟨?_,h.inj,h.dom,fun β hA=>⟨Nat.lt_of_lt_of_le (h.lo β hA).1 hs,(h.lo β hA).2⟩,h.fr.mono hs (fun _ _ _ k=>k) (fun q β add k=>hh β (h.fr.fam q β add k).1) fun _ _ _ _ k=>k⟩,hg⟩
  intro l cells hl
  rcases h.all l cells hl with h1 | ⟨β,add,size,c,T,fr,hB⟩
  · exact .inl h1
  · exact .inr ⟨β,add,size,c,T,fr,⟨hB.sig,by rw [hh β (h.lt (.inl ⟨l,cells,_,_,hl,hB.sig⟩))];exact hB.heap,hB.hsz,hB.fits,fun i x hx=>let ⟨v,h1,h2⟩:=hB.vals i x hx;⟨v,h1,h2.grow hg⟩,hB.frs⟩⟩
/-- The record of a loop. -/
abbrev loopRec (fn:Nat) (tmps:Array Value) (ps:List Nat) (assign body:Code) (dfr:Nat):Loop:={ state:=.ready,pending:=none,fn:=fn,tmps:=tmps,params:=ps.toArray,assign:=assign,body:=body,defers:=dfr }
section
variable {E:Env} {K:Nat → Prop} {n:Nat} {al:Al} {L:Lb} {Q:Exit → Al → Lb → Prop}
/-- What a call of a round's function runs. -/
def yieldT (ro:Option Nat) (P:Program) (m:Nat) (ps:List Nat) (assign body:Code) (ts:List Nat) (cvs cxs:List Value) (W:World) (cargs:List Value) (R:Ending → World → Prop):Prop:=
  cargs = cvs ++ cxs → ∀ l fn dfr tmps,W.heap[l]? = some (.loop (loopRec fn tmps ps assign body dfr)) → tmps.size = m → (∀ (i t:Nat) (v:Value),ts[i]? = some t → cvs[i]? = some v → tmps[t]? = some v) →
    RoundIn (fen ro) 0 P l fn ((ps.zip cxs).foldl (fun tmps p=>tmps.setIfInBounds p.1 p.2) tmps) assign body W R
theorem yieldT_mono {ro:Option Nat} {P:Program} {m:Nat} {ps ts:List Nat} {assign body:Code} {cvs cxs:List Value}:∀ (w:World) (cargs:List Value) (R R':Ending → World → Prop),(∀ e w',R e w' → R' e w') → yieldT ro P m ps assign body ts cvs cxs w cargs R → yieldT ro P m ps assign body ts cvs cxs w cargs R':=
  fun w cargs R R' hr h hc l fn dfr tmps h1 h2 h3=>(h hc l fn dfr tmps h1 h2 h3).mono hr
/-- A call of a round's function. -/
theorem AWl_yield {ops:Array Oper} {rest:List Oper} {d:Option Tmp} {ty:TypeId} {pos:String} {after:Array Edge} {g:Option (Nat × Bool)} {fo:Operand} {args:Array Operand} {tys:Array TypeId} {m:Nat} {ps ts:List Nat} {assign body:Code} {vs xs:List PV} {rl LL wl:Lb} (hG:GOK E)
    (hf:xev E.G al fo = some (.yld m ps assign body ts vs)) (hx:xevs E.G al args.toList = some xs) (hpx:ps.length = xs.length)
    (h:∀ cvs cxs,cvs.length = vs.length → cxs.length = xs.length → ACallsT E (yieldT E.ro E.P m ps assign body ts cvs cxs) (vs ++ xs) rl fun r L'=>r = .bool true ∧ L' = LL)
    (hw:withinL (hasL rl) (vs ++ xs) = true) (hc:∀ l cells,lget rl l = some (some cells) → withinL (hasL rl) cells = true)
    (hkeys:∀ l,lget rl l ≠ none → lget LL l ≠ none) (hnew:∀ l y,lget LL l = some y → lget rl l = none → ∃ p ∈ wl,p.1 = l)
    (heq:∀ (L:Lb) (l:Nat),(∀ l y,lget rl l = some y → lget L l = some y) → lget (lupd L wl) l = lget (LL ++ L) l)
    (hno:Kst rl) (h2:∀ l y,lget rl l = some y → lget L l = some y) (h3:∀ p ∈ wl,lget rl p.1 ≠ none ∨ lget L p.1 = none)
    (hd:∀ t,d = some t → t < n) (hg:wants ops al ⟨d,.call ⟨.value fo,args,tys⟩,ty,pos,after,g⟩ = some true)
    (k:AWl E K n ops rest Q (oset d (.bool true) al) (lupd L wl)):AWl E K n ops (⟨d,.call ⟨.value fo,args,tys⟩,ty,pos,after,g⟩ :: rest) Q al L:=by
  intro A w σ a r t
  have hv:=xev_ok r (fun _ _ h=>h) hf
  obtain ⟨e1,e2⟩:=xevs_ok r (fun _ _ h=>h) _ _ hx
  simp only [wpListIn]
  rw [if_pos (wants_ok r hg)]
  refine ⟨fun _ _=>trivial,?_⟩
  rw [Oper.semAt_eq _ _ _ (fun c h=>by cases h)]
  generalize hge:a.eval fo = fv at hv
  cases hv with
  | yld l fn dfr tmps cs hn hl hz hcl ht hvs=>
    have hrun:(execOp a.eval ⟨d,.call ⟨.value fo,args,tys⟩,ty,pos,after,g⟩).run E.P w = .ok (.round l fn ((ps.zip (args.toList.map a.eval)).foldl (fun tmps p=>tmps.setIfInBounds p.1 p.2) tmps) assign body) w:=by
      have hy:=run_yield (P:=E.P) (args:=args.map a.eval) hl (by have:=e1;simp at this;simp;rw [hpx];exact this.symm)
      have hz2:(ps.toArray.zip (args.map a.eval)).foldl (fun tmps x=>match x with | (t,a)=>tmps.setIfInBounds t a) tmps = (ps.zip (args.toList.map a.eval)).foldl (fun tmps p=>tmps.setIfInBounds p.1 p.2) tmps:=by
        rw [← Array.foldl_toList]
        simp
      rw [hz2] at hy
      simp [execOp,resolve,Deferred.ofValue,hge,invoke,hy]
    rw [hrun,Oper.uponIn_round]
    refine ⟨fun h=>by simp [Fence.wide] at h,?_⟩
    have hT:=ACallsT.use (T:=yieldT E.ro E.P m ps assign body ts cs (args.toList.map a.eval)) yieldT_mono hG (h cs (args.toList.map a.eval) hcl.symm e1.symm) hw hc hkeys hnew heq r hno h2 h3 (cargs:=cs ++ args.toList.map a.eval) (by have:=e1;simp at this;simp [hcl,this]) (fun i x v hx hv=>by
        by_cases hi:i < vs.length
        · rw [List.getElem?_append_left hi] at hx
          rw [List.getElem?_append_left (by omega)] at hv
          exact hvs i x v hx hv
        · rw [List.getElem?_append_right (by omega)] at hx
          rw [List.getElem?_append_right (by omega)] at hv
          exact e2 _ x v hx (by rw [← hcl] at hv;exact hv)) rfl l fn dfr tmps hl hz ht
    refine hT.mono ?_
    rintro e w' ⟨σ',c,rfl,f1,f2,f3⟩
    have r':=(r.grow f2 f3).put (d:=d) (fun u hu=>by rw [t];exact hd u hu) f1
    exact wpListIn_mono (fun e a w h=>Post.trans (f3.weaken fun _ _=>trivial) h) _ _ _ (k A w' σ' _ r' (by rw [size_put];exact t))
end
end Go.SH
namespace Go.SH
variable [SentA]
theorem lget_lupdN {α:Type} {wl L:List (Nat × α)} {k:Nat} (h:∀ p ∈ wl,∀ q ∈ wl,p.1 = q.1 → p = q):lget (lupd L wl) k = match lget wl k with | some c=>some c | none=>lget L k:=by
  rcases lget_lupdG wl L k with ⟨p,hp,rfl,h2⟩ | ⟨h1,h2⟩
  · have hk:(keys wl).elem p.1 = true:=by simp only [keys,List.elem_eq_mem,decide_eq_true_eq];exact List.mem_map.2 ⟨p,hp,rfl⟩
    cases hc:lget wl p.1 with
    | none=>exact absurd hc (elemK.1 hk)
    | some c=>
      have:=h p hp _ (mem_of_lget hc) rfl
      rw [h2,this]
  · cases hc:lget wl k with
    | none=>exact h2
    | some c=>exact absurd rfl (h1 _ (mem_of_lget hc))
theorem set_ok {s:St} (h:s.ok) {d:Option Nat} {x:DV} (hx:x.ok):(s.set d x).ok:=by
  cases d with
  | none=>exact h
  | some t=>
    refine ⟨fun u y hy=>?_,h.2⟩
    simp only [St.set,lget] at hy
    split at hy
    · simp at hy;subst hy;exact hx
    · exact h.1 u y hy
theorem wr_ok {s:St} (h:s.ok) {wl:DLb} {dl:DL} (hw:wlOk wl):(s.wr wl dl).ok:=by
  refine ⟨h.1,fun l c hl=>?_⟩
  simp only [St.wr] at hl
  rcases lget_lupdG wl s.L l with ⟨p,hp,rfl,h2⟩ | ⟨_,h2⟩
  · rw [h2] at hl;simp at hl;subst hl;exact hw p hp
  · rw [h2] at hl;exact h.2 l c hl
theorem set_up (s:St) (d:Option Nat) (x:DV):Up s (s.set d x):=fun _ h=>h.set d x
theorem wr_up {s:St} {wl:DLb} {dl:DL} (h:DirtyOK s.L wl dl):Up s (s.wr wl dl):=fun _ k=>k.wr h
theorem dal_set (s:St) (d:Option Nat) (x:DV):dal (s.set d x).al = oset d x.pv (dal s.al):=by cases d <;> rfl
theorem dlb_set (s:St) (d:Option Nat) (x:DV):(s.set d x).L = s.L:=by cases d <;> rfl
theorem resV_ok {s:St} (h:s.ok):(resV s).ok:=by
  unfold resV
  split
  · rename_i d hd;exact h.1 _ _ hd
  · trivial
theorem nodupM_mem:∀ {m m':List (Nat × Nat)},nodupM (m ++ m') = true → ∀ p ∈ m,lk (m ++ m') p.1 = p.2:=fun h p hp=>nodupM_lk h p (List.mem_append_left _ hp)
section
variable {E:Env} {d:Option Tmp} {ty:TypeId} {pos:String} {after:Array Edge} {gg:Option (Nat × Bool)} {ra:DAl} {rl:DLb} {R:Type} {k:DV → DLb → DL → Option R} {r:R} {G:GTab}
/-- .. that may write families' blocks. -/
def OpB (wk:Bool) (E:Env) (o:Oper) (ra:DAl) (rl:DLb) {R:Type} (k:DV → DLb → DL → Option R) (r:R):Prop:=
  ∃ x wl dl,(match wk with
    | false=>AOp E o (dal ra) (dlb rl) x.pv (dlb wl)
    | true=>AOpW E o (dal ra) (dlb rl) x.pv (dlb wl)) ∧ x.ok ∧ wlOk wl ∧ DirtyOK rl wl dl ∧ k x wl dl = some r
theorem dcNoF_ok {c:DC} (h:dcNoF c = true) {cells:List PV} (hc:c.pv = some cells):withinL noF cells = true:=by
  cases c with
  | gone=>simp [DC.pv] at hc
  | cs ds=>
    simp [DC.pv] at hc;subst hc
    simp only [dcNoF,Bool.and_eq_true] at h
    exact labsL_withinN h.1 (.inl h.2)
  | ls t l=>simp [DC.pv] at hc;subst hc;exact fl_withinN (.inl h) _
def CoreT (E:Env) (con:ICore) (a:HT (Sh.hss con.ar ++ hsL con.ls)) (v:con.ot.T) (TT:World → List Value → (Ending → World → Prop) → Prop):Prop:=
  ACallsT E TT (DV.pvs (inA con.ar con.ls (unpack _ a))) (dlb (inL con.ar con.ls (unpack _ a))) fun x L=>x = (resV (con.ot.app v (inS con.ar con.ls (unpack _ a)))).pv ∧ L = dlb (con.ot.app v (inS con.ar con.ls (unpack _ a))).L
theorem dCallI_core {wk:Bool} (hE:GOK E) (hrl:lbOk rl) {fr:Nat} {con:ICore} {f:FuncId} {args:List DV}
    (h:dCallI wk rl fr con f args k = some r):∃ a v x wl dl L2 LL,con.f = f ∧ con.fn a = some v ∧ x.ok ∧ wlOk wl ∧ DirtyOK rl wl dl ∧ k x wl dl = some r ∧ (∃ τ,x.pv = PV.rn τ (resV (con.ot.app v (inS con.ar con.ls (unpack _ a)))).pv) ∧
      (∀ TT:World → List Value → (Ending → World → Prop) → Prop,(∀ w cargs (R R':Ending → World → Prop),(∀ e w',R e w' → R' e w') → TT w cargs R → TT w cargs R') → CoreT E con a v TT → ACallsT E TT (DV.pvs args) L2 fun r L'=>r = x.pv ∧ L' = LL) ∧
      withinL (hasL L2) (DV.pvs args) = true ∧ (∀ l cells,lget L2 l = some (some cells) → withinL (hasL L2) cells = true) ∧ (∀ l,lget L2 l ≠ none → lget LL l ≠ none) ∧ (∀ l y,lget LL l = some y → lget L2 l = none → ∃ p ∈ dlb wl,p.1 = l) ∧
      (∀ (L:Lb) (l:Nat),(∀ l y,lget L2 l = some y → lget L l = some y) → lget (lupd L (dlb wl)) l = lget (LL ++ L) l) ∧
      (∀ {L:Lb},(∀ l y,lget (dlb rl) l = some y → lget L l = some y) → (∀ p ∈ dlb wl,lget (dlb rl) p.1 ≠ none ∨ lget L p.1 = none) → (∀ l y,lget L2 l = some y → lget L l = some y) ∧ ∀ p ∈ dlb wl,lget L2 p.1 ≠ none ∨ lget L p.1 = none) ∧
      (wk = false → Kst L2) ∧ (wk = true → ∀ {L:Lb},(∀ l y,lget (dlb rl) l = some y → lget L l = some y) → (∀ l cells,lget (dlb rl) l = none → lget L l = some (some cells) → withinL noF cells = true) → ∀ l cells,lget L2 l = none → lget L l = some (some cells) → withinL noF cells = true):=by
  unfold dCallI at h
  split at h
  rotate_left
  · simp at h
  rename_i hc0;obtain ⟨rfl,hk1,hk2,hk3⟩:=hc0
  split at h
  rotate_left
  · simp at h
  rename_i g1 hg1
  split at h
  rotate_left
  · simp at h
  rename_i g hg
  obtain ⟨hq,h⟩:=reqs_ok h
  split at h
  rotate_left
  · simp at h
  rename_i a ha
  obtain ⟨v,hv,h⟩:=bind_some h
  simp only at h
  split at h
  rotate_left
  · simp at h
  rename_i hc
  obtain ⟨c1,c2,c3,c4,c5,c6,c7,c8,c9,c10,c11,c12,c13,c14⟩:=hc
  have hu:=pack_ok ha
  obtain ⟨a1,as_,a2,a3,a4⟩:=gets_mks _ con.ar hg1
  obtain ⟨b1,ys,b2,b4⟩:=getL_ok hg
  have hvs:g.vs = as_ ++ ys:=by rw [b2,a2];simp
  have hC:∀ TT,CoreT E con a v TT → ACallsT E TT (DV.pvs (inA con.ar con.ls g.vs)) (dlb (inL con.ar con.ls g.vs)) fun x L=>x = (resV (con.ot.app v (inS con.ar con.ls g.vs))).pv ∧ L = dlb (con.ot.app v (inS con.ar con.ls g.vs)).L:=fun TT hc=>by
    unfold CoreT at hc;rw [hu] at hc;exact hc
  generalize hlen:inLen con.ar con.ls g.vs = len at *
  generalize ho:con.ot.app v (inS con.ar con.ls g.vs) = o at *
  have hAeq:inA con.ar con.ls g.vs = (Sh.mks len con.ar (as_ ++ ys)).1:=by unfold inA;rw [hlen,hvs]
  have hτ:∀ p ∈ g.m,lk (g.m ++ newN (fr) (keys con.ls) (keys o.L) 0) p.1 = p.2:=nodupM_mem c1
  generalize lk (g.m ++ newN (fr) (keys con.ls) (keys o.L) 0) = τ at *
  have hLk:keys (inL con.ar con.ls g.vs) = keys con.ls:=mkL_keys _ _ _
  have hS:hasL (dlb (inL con.ar con.ls g.vs)) = fun l=>(keys con.ls).elem l:=by rw [hasL_keys,hLk]
  have hF:Fin τ (hasL (dlb (inL con.ar con.ls g.vs))) len g:=⟨fun p hp=>⟨hτ p hp,by rw [hS];exact List.all_eq_true.1 c2 p hp⟩,hq⟩
  obtain ⟨d1,d2,d3⟩:=a4 len ys τ _ (hF.sub b1).m (hF.sub b1).q
  obtain ⟨e1,e2⟩:=b4 [] hF
  have hx1:=getL_x hg b2 (rest:=[]) hF
  rw [List.append_nil] at e1 e2 hx1
  have hLeq:inL con.ar con.ls g.vs = (mkL len con.ls ys).1:=by
    unfold inL;rw [hlen,hvs]
    simp only at d1
    rw [d1]
  let L2:Lb:=con.ls.map fun p=>(τ p.1,match lget rl (τ p.1) with | some c=>c.pv | none=>none)
  have hL2k:hasL L2 = fun l=>((keys con.ls).map τ).elem l:=by
    have:L2 = dlb (con.ls.map fun p=>(τ p.1,match lget rl (τ p.1) with | some c=>c | none=>.gone)):=by
      simp only [L2,dlb,List.map_map]
      refine List.map_congr_left fun p _=>?_
      simp only [Function.comp]
      cases lget rl (τ p.1) <;> rfl
    rw [this,hasL_keys]
    funext l
    simp only [keys,List.map_map]
    rfl
  have hin:∀ l,l ∈ keys con.ls → ∃ c cells,lget rl (τ l) = some c ∧ c.pv = some cells ∧ dcLabsN (fun l=>((keys con.ls).map τ).elem l) c = true:=by
    intro l hl
    obtain ⟨p,hp,rfl⟩:=List.mem_map.1 hl
    have:=List.all_eq_true.1 c4 p hp
    split at this
    · simp at this
    · rename_i c hne hc
      cases c with
      | gone=>exact (hne rfl).elim
      | cs ds=>exact ⟨_,_,hc,rfl,this⟩
      | ls t x=>exact ⟨_,_,hc,rfl,this⟩
    · simp at this
  have hsub:∀ p ∈ L2,lget (dlb rl) p.1 = some p.2:=by
    intro p hp
    obtain ⟨q,hq,rfl⟩:=List.mem_map.1 hp
    obtain ⟨c,cells,h1,h2,_⟩:=hin q.1 (List.mem_map.2 ⟨q,hq,rfl⟩)
    simp only;rw [lget_dlb,h1];rfl
  have hL2get:∀ l,l ∈ keys con.ls → lget L2 (τ l) = lget (dlb rl) (τ l):=by
    intro l hl
    have:hasL L2 (τ l) = true:=by rw [hL2k];simp only [List.elem_eq_mem,decide_eq_true_eq];exact List.mem_map.2 ⟨l,hl,rfl⟩
    simp only [hasL,Option.isSome_iff_exists] at this
    obtain ⟨y,hy⟩:=this
    rw [hy];exact (hsub _ (mem_of_lget hy)).symm
  have hinj:∀ l l',lget (dlb o.L) l ≠ none → lget (dlb o.L) l' ≠ none → τ l = τ l' → l = l':=by
    intro l l' h1 h2 h3
    have hk:∀ {l},lget (dlb o.L) l ≠ none → l ∈ keys o.L:=fun {l} h=>by
      have:hasL (dlb o.L) l = true:=by simpa [hasL,Option.isSome_iff_ne_none] using h
      rw [hasL_keys] at this;simpa using this
    have:=List.all_eq_true.1 (List.all_eq_true.1 c6 l (hk h1)) l' (hk h2)
    simp only [decide_eq_true_eq] at this
    exact this h3
  have hmemo:∀ {l},lget (dlb o.L) l ≠ none ↔ l ∈ keys o.L:=fun {l}=>by
    have:hasL (dlb o.L) l = true ↔ l ∈ keys o.L:=by rw [hasL_keys];simp
    rw [← this];simp [hasL,Option.isSome_iff_ne_none]
  have hmemi:∀ {l},lget (dlb (inL con.ar con.ls g.vs)) l ≠ none ↔ l ∈ keys con.ls:=fun {l}=>by
    have:hasL (dlb (inL con.ar con.ls g.vs)) l = true ↔ l ∈ keys con.ls:=by rw [hS];simp
    rw [← this];simp [hasL,Option.isSome_iff_ne_none]
  have hdom:∀ l,l ∈ keys con.ls → l ∈ keys o.L:=fun l hl=>by simpa using List.all_eq_true.1 c5 l hl
  have hrn:∀ l,l ∈ keys o.L → lget (rnL τ o.L) (τ l) = (lget o.L l).map (DC.rn τ):=fun l hl=>lget_rn fun l' hl' e=>hinj l' l (hmemo.2 hl') (hmemo.2 hl) e
  have hkp:∀ l,lget (dlb (inL con.ar con.ls g.vs)) l ≠ none → τ l = fkeep → l = fkeep:=fun l hl=>by
    have:=List.all_eq_true.1 c13 l (hmemi.1 hl)
    exact of_decide_eq_true this
  have hR:=fun TT (hTT:∀ w cargs (R R':Ending → World → Prop),(∀ e w',R e w' → R' e w') → TT w cargs R → TT w cargs R') (hc0:CoreT E con a v TT)=>ACallsT.ren (L2:=L2) (LL2:=dlb (rnL τ o.L)) (τ:=τ) (xs:=DV.pvs args) hTT (hC TT hc0) (by
      rw [hAeq];exact d2.get.1) (fun i x y hx hy=>by rw [hAeq] at hy;exact d2.get.2 i x y hx hy) (fun l c hl=>by
      have hlk:l ∈ keys con.ls:=hmemi.1 (by rw [hl];simp)
      have hm:=mem_of_lget hl
      obtain ⟨⟨l',c'⟩,hp,e⟩:=List.mem_map.1 hm
      simp only [Prod.mk.injEq] at e;obtain ⟨rfl,rfl⟩:=e
      rw [hLeq] at hp
      obtain ⟨_,ys',k2,k3⟩:=e2 _ hp
      simp only at k2 k3
      rcases k3 with ⟨xs',k4,k5⟩ | ⟨k4,_⟩
      · exact ⟨ys',xs',k2,by rw [hL2get _ hlk];exact k4,k5⟩
      · obtain ⟨c,cells,h1,_⟩:=hin _ hlk
        rw [lget_dlb,h1] at k4;simp at k4)
    (fun k' hk'=>by
      have:hasL L2 k' = true:=by simpa [hasL,Option.isSome_iff_ne_none] using hk'
      rw [hL2k] at this
      simp only [List.elem_eq_mem,decide_eq_true_eq] at this
      obtain ⟨l,h1,h2⟩:=List.mem_map.1 this
      exact ⟨l,hmemi.2 h1,h2⟩) hinj (fun l hl=>hmemo.2 (hdom l (hmemi.1 hl)))
    (by rw [hasL_keys];exact labs_within c7) (fun l cells hl=>by
      have hm:=mem_of_lget hl
      obtain ⟨⟨l',c'⟩,hp,e⟩:=List.mem_map.1 hm
      simp only [Prod.mk.injEq] at e;obtain ⟨rfl,e⟩:=e
      have h8:=List.all_eq_true.1 c8 _ hp
      rw [hasL_keys]
      cases c' with
      | gone=>simp [DC.pv] at e
      | cs ds=>simp [DC.pv] at e;subst e;exact labsL_within h8
      | ls t x=>
        simp [DC.pv] at e;subst e
        simp only [dcLabsN,Bool.or_eq_true] at h8
        exact fl_withinN h8 _)
    (fun l c hl=>by
      have hlk:l ∈ keys o.L:=hmemo.1 (by rw [hl];simp)
      rw [lget_dlb] at hl
      cases ho2:lget o.L l with
      | none=>rw [ho2] at hl;simp at hl
      | some c'=>
        rw [ho2] at hl;simp at hl;subst hl
        rw [lget_dlb,hrn l hlk,ho2]
        simp [dc_rn_pv])
    (fun k' hk'=>by
      rw [lget_dlb] at hk'
      obtain ⟨l,h1,h2⟩:=lget_rn_none (L:=o.L) (τ:=τ) (k:=k') (fun e=>hk' (by rw [e];rfl))
      exact ⟨l,hmemo.2 h1,h2⟩) hkp hE
  have hwl_nd:∀ p ∈ wlI τ rl con.ls con.ot o.L,∀ q ∈ wlI τ rl con.ls con.ot o.L,p.1 = q.1 → p = q:=by
    intro p hp q hq e
    obtain ⟨⟨l,c⟩,hp1,rfl⟩:=List.mem_map.1 hp
    obtain ⟨⟨l',c'⟩,hq1,rfl⟩:=List.mem_map.1 hq
    have hp':=(List.mem_filter.1 hp1).1
    have hq':=(List.mem_filter.1 hq1).1
    have h1:=nodupN_lget c11 hp'
    have h2:=nodupN_lget c11 hq'
    have hlk:∀ {l c},(l,c) ∈ o.L → l ∈ keys o.L:=fun h=>List.mem_map.2 ⟨_,h,rfl⟩
    have:=hinj l l' (hmemo.2 (hlk hp')) (hmemo.2 (hlk hq')) e
    subst this
    rw [h1] at h2;simp at h2;rw [h2]
  have hbase:∀ l c,lget o.L l = some c → l ∉ keys con.ot.labs → ∃ c0,(l,c0) ∈ inL con.ar con.ls g.vs ∧ ∃ cu:List (Nat × Nat × DV),(cu.map fun c=>(c.1,c.2.1)) = (con.ot.cups.map fun c=>(c.1,c.2.1)) ∧ c = cupL cu con.ot.killL l c0:=by
    intro l c hl hn
    rw [← ho] at hl
    simp only [Tm.app,Tm.appL] at hl
    rcases lget_appM hl with ⟨p,hp,rfl⟩ | ⟨_,hl⟩
    · have:l ∈ keys con.ot.labs:=by
        have h1:l ∈ (mkL (lenF (lenT con.ot.labs ((unpack con.ot.hs v).drop (nS con.ot.slots))) (inS con.ar con.ls g.vs).L) con.ot.labs (mkS (lenF (lenT con.ot.labs ((unpack con.ot.hs v).drop (nS con.ot.slots))) (inS con.ar con.ls g.vs).L) con.ot.slots (unpack con.ot.hs v)).2).1.map (·.1):=List.mem_map.2 ⟨_,hp,rfl⟩
        rw [mkL_keys] at h1;exact h1
      exact absurd this hn
    · obtain ⟨⟨l',c0⟩,hp,e⟩:=List.mem_map.1 (mem_of_lget hl)
      simp only [Prod.mk.injEq] at e;obtain ⟨rfl,rfl⟩:=e
      exact ⟨c0,mem_of_lget (ded_mem hp).2,_,mkC_keys _ _ _,rfl⟩
  have hcup_no:∀ {cu:List (Nat × Nat × DV)} {l:Nat} {c0:DC},(cu.map fun c=>(c.1,c.2.1)) = (con.ot.cups.map fun c=>(c.1,c.2.1)) → con.ot.killL.elem l = false → ∀ t x,c0 = .ls t x → cupL cu con.ot.killL l c0 = .ls t x:=by
    intro cu l c0 _ hk t x e;subst e;simp only [cupL,hk]
  have hkept:∀ l,l ∈ keys o.L → keptI τ rl con.ls con.ot l = true → ∃ c,lget rl (τ l) = some c ∧ (lget o.L l).map (DC.rn τ) = some c:=by
    intro l hlo hk
    simp only [keptI,Bool.and_eq_true,Bool.not_eq_true'] at hk
    obtain ⟨⟨⟨k1,k2⟩,k3⟩,k4⟩:=hk
    split at k4
    · rename_i sl hsl
      cases hoc:lget o.L l with
      | none=>exact absurd (by rw [lget_dlb,hoc];rfl) (hmemo.2 hlo)
      | some c=>
        have hn:l ∉ keys con.ot.labs:=fun hm=>by
          have:(keys con.ot.labs).elem l = true:=by simpa using hm
          rw [this] at k1;simp at k1
        obtain ⟨c0,h1,cu,h2,h3⟩:=hbase l c hoc hn
        rw [hLeq] at h1
        obtain ⟨sh,h4,h5⟩:=hx1 _ h1
        have h6:=nodupN_lget c12 h4
        rw [hsl] at h6;simp at h6;subst h6
        unfold lsSame at k4
        split at k4
        · rename_i t t' x hls
          simp at k4;subst k4
          obtain ⟨y,h7,h8⟩:=h5
          simp only at h7 h8
          have h9:=h8 x hls
          subst h9
          exact ⟨_,hls,by rw [h3,hcup_no h2 k2 _ _ h7];rfl⟩
        · rename_i ss ds hls
          obtain ⟨ds',es,h6,h7,h8,h9,h10⟩:=h5
          simp only at h6 h7
          rw [hls] at h6;simp at h6;subst h6
          refine ⟨_,hls,?_⟩
          rw [h3,h7]
          simp only [cupL,k2,Option.map_some,DC.rn]
          have hno:∀ i e0,cupD cu l i e0 = e0:=by
            intro i e0
            rcases cupD_or cu l i e0 with ⟨h13,_⟩ | ⟨q,h13,h14,h15,_⟩
            · exact h13
            · exfalso
              have hm:(q.1,q.2.1) ∈ cu.map (fun c=>(c.1,c.2.1)):=List.mem_map.2 ⟨q,h13,rfl⟩
              rw [h2] at hm
              obtain ⟨q',h16,h17⟩:=List.mem_map.1 hm
              simp at h17
              have:(con.ot.cups.any fun c=>decide (c.1 = l)) = true:=List.any_eq_true.2 ⟨q',h16,by simp [h17.1,h14]⟩
              rw [this] at k3;simp at k3
          congr 2
          refine List.ext_getElem? fun i=>?_
          rw [rnsD_get,cupM_get]
          cases hei:es[i]? with
          | none=>
            have:ds.length ≤ i:=by have:=List.getElem?_eq_none_iff.1 hei;omega
            rw [List.getElem?_eq_none this];rfl
          | some e0=>
            have hlt:i < ds.length:=by have:=(List.getElem?_eq_some_iff.1 hei).1;omega
            have hdi:=List.getElem?_eq_getElem hlt
            have hsi:ss[i]? = some (ss[i]'(by omega)):=List.getElem?_eq_getElem (by omega)
            obtain ⟨e,h11,h12⟩:=h10 i _ _ hsi hdi (allExact_get k4 hsi hdi)
            rw [hei] at h11;simp at h11;subst h11
            simp only [Option.map_some,Nat.zero_add,hno]
            rw [h12,hdi]
        · simp at k4
    · simp at k4
  have hwl:∀ l,l ∈ keys o.L → lget (wlI τ rl con.ls con.ot o.L) (τ l) = if keptI τ rl con.ls con.ot l = true then none else (lget o.L l).map (DC.rn τ):=by
    intro l hl
    unfold wlI
    rw [lget_rn]
    · rw [lget_filter (f:=fun l=>!keptI τ rl con.ls con.ot l)]
      cases keptI τ rl con.ls con.ot l <;> simp
    · intro l' hl' e
      obtain ⟨p,hp,rfl⟩:=List.mem_map.1 hl'
      exact hinj _ _ (hmemo.2 (List.mem_map.2 ⟨p,(List.mem_filter.1 hp).1,rfl⟩)) (hmemo.2 hl) e
  have hstate:∀ (L:Lb) (l:Nat),(∀ l y,lget L2 l = some y → lget L l = some y) → lget (lupd L (dlb (wlI τ rl con.ls con.ot o.L))) l = lget (dlb (rnL τ o.L) ++ L) l:=by
    intro L k' hL
    have hwl_nd':∀ p ∈ dlb (wlI τ rl con.ls con.ot o.L),∀ q ∈ dlb (wlI τ rl con.ls con.ot o.L),p.1 = q.1 → p = q:=by
      intro p hp q hq e
      obtain ⟨p',hp1,rfl⟩:=List.mem_map.1 hp
      obtain ⟨q',hq1,rfl⟩:=List.mem_map.1 hq
      rw [hwl_nd p' hp1 q' hq1 e]
    rw [lget_append,lget_dlb,lget_lupdN hwl_nd',lget_dlb]
    by_cases hk:∃ l ∈ keys o.L,τ l = k'
    · obtain ⟨l,hl,rfl⟩:=hk
      rw [hwl l hl,hrn l hl]
      cases hoc:lget o.L l with
      | none=>exact absurd (by rw [lget_dlb,hoc];rfl) (hmemo.2 hl)
      | some c=>
        cases hkp:keptI τ rl con.ls con.ot l with
        | true=>
          obtain ⟨c1,h1,h2⟩:=hkept l hl hkp
          rw [hoc] at h2;simp at h2
          have hlk:l ∈ keys con.ls:=by
            simp only [keptI,Bool.and_eq_true] at hkp
            have h3:=hkp.2
            split at h3
            · rename_i hls;have:(keys con.ls).elem l = true:=elemK.2 (by rw [hls];simp)
              simpa using this
            · simp at h3
          have h4:lget L (τ l) = some c1.pv:=hL _ _ (by rw [hL2get l hlk,lget_dlb,h1];rfl)
          simp [h4,h2]
        | false=>simp
    · have h1:lget (rnL τ o.L) k' = none:=by
        cases hc:lget (rnL τ o.L) k' with
        | none=>rfl
        | some c=>exact absurd (lget_rn_none (by rw [hc];simp)) hk
      have h2:lget (wlI τ rl con.ls con.ot o.L) k' = none:=by
        cases hc:lget (wlI τ rl con.ls con.ot o.L) k' with
        | none=>rfl
        | some c=>
          obtain ⟨l,h3,h4⟩:=lget_rn_none (L:=o.L.filter fun p=>!keptI τ rl con.ls con.ot p.1) (τ:=τ) (k:=k') (by unfold wlI at hc;rw [hc];simp)
          obtain ⟨p,hp,rfl⟩:=List.mem_map.1 h3
          exact absurd ⟨p.1,List.mem_map.2 ⟨p,(List.mem_filter.1 hp).1,rfl⟩,h4⟩ hk
      rw [h1,h2]
      simp
  have hook:o.ok:=by
    rw [← ho]
    refine app_ok hk1 v ⟨fun t x hx=>by simp [inS,lget] at hx,fun l c hl=>?_⟩
    exact mkL_okk hk2 (l,c) (mem_of_lget hl)
  have hwlok:wlOk (wlI τ rl con.ls con.ot o.L):=by
    intro p hp
    obtain ⟨⟨l,c⟩,hp1,rfl⟩:=List.mem_map.1 hp
    have h1:=hook.2 l c (nodupN_lget c11 (List.mem_filter.1 hp1).1)
    cases c with
    | gone=>trivial
    | ls t x=>trivial
    | cs ds=>exact rns_ok τ h1
  have hdirty:DirtyOK rl (wlI τ rl con.ls con.ot o.L) (dirtyI τ rl con.ls con.ot):=by
    intro p hp
    obtain ⟨⟨l,c⟩,hp1,rfl⟩:=List.mem_map.1 hp
    obtain ⟨hpm,hnk⟩:=List.mem_filter.1 hp1
    have hoc:=nodupN_lget c11 hpm
    have hlo:l ∈ keys o.L:=List.mem_map.2 ⟨_,hpm,rfl⟩
    simp only
    by_cases hlab:l ∈ keys con.ot.labs
    · left
      obtain ⟨q,hq,rfl⟩:=List.mem_map.1 hlab
      simp only [dirtyI,List.mem_append]
      exact .inl (.inl (.inl (List.mem_map.2 ⟨q,hq,rfl⟩)))
    · obtain ⟨c0,h1,cu,h2,h3⟩:=hbase l c hoc hlab
      cases hkl:con.ot.killL.elem l with
      | true=>
        left
        simp only [dirtyI,List.mem_append]
        exact .inl (.inr (List.mem_map.2 ⟨l,by simpa using hkl,rfl⟩))
      | false=>
        rw [hLeq] at h1
        obtain ⟨sh,h4,h5⟩:=hx1 _ h1
        simp only at h4 h5
        have hsh:=nodupN_lget c12 h4
        have hinx:∀ z,z ∈ inexact (τ l) sh (lget rl (τ l)) → z ∈ dirtyI τ rl con.ls con.ot:=by
          intro z hz
          simp only [dirtyI,List.mem_append]
          exact .inr (List.mem_flatMap.2 ⟨(l,sh),h4,hz⟩)
        cases sh with
        | ls t=>
          obtain ⟨y,h6,h7⟩:=h5
          have hnk':keptI τ rl con.ls con.ot l = false:=by simpa using hnk
          have hl1:(keys con.ot.labs).elem l = false:=by simpa using hlab
          simp only [keptI,hl1,hkl,hsh,Bool.not_false,Bool.true_and,Bool.and_eq_false_iff,Bool.not_eq_false'] at hnk'
          rcases hnk' with h8 | h8
          · -- a cell of a list: there is none
            left
            simp only [List.any_eq_true,decide_eq_true_eq] at h8
            obtain ⟨q,hq,rfl⟩:=h8
            exfalso
            have:=List.all_eq_true.1 hk3 q hq
            split at this
            · rename_i ss hss;rw [hsh] at hss;simp at hss
            · simp at this
          · left
            refine hinx _ ?_
            unfold inexact
            simp only
            cases hsl:lget rl (τ l) with
            | none=>simp
            | some c'=>
              cases c' with
              | gone=>simp
              | cs ds=>simp
              | ls t' x=>
                simp only
                rw [hsl] at h8
                simp only [lsSame,decide_eq_false_iff_not] at h8
                rw [if_neg h8];simp
        | cs ss=>
          obtain ⟨ds,es,h6,h7,h8,h9,h10⟩:=h5
          right
          subst h7
          have hcc:c = .cs (cupM cu l 0 es):=by rw [h3];simp only [cupL,hkl]
          subst hcc
          refine ⟨ds,DV.rns τ (cupM cu l 0 es),h6,rfl,by rw [rnsD_len,cupM_len,h8],fun i hi=>?_⟩
          rw [rnsD_get,cupM_get]
          cases hei:es[i]? with
          | none=>
            have:ds.length ≤ i:=by have:=List.getElem?_eq_none_iff.1 hei;omega
            rw [List.getElem?_eq_none this];rfl
          | some e0=>
            have hlt:i < ds.length:=by have:=(List.getElem?_eq_some_iff.1 hei).1;omega
            have hdi:=List.getElem?_eq_getElem hlt
            have hsi:ss[i]? = some (ss[i]'(by omega)):=List.getElem?_eq_getElem (by omega)
            have hex:exactD (ss[i]'(by omega)) ds[i] = true:=by
              refine inexact_mem (k:=τ l) (j:=0) (i:=i) (fun hm=>hi (hinx _ ?_)) hsi hdi
              unfold inexact
              simp only [h6]
              simpa using hm
            obtain ⟨e,h11,h12⟩:=h10 i _ _ hsi hdi hex
            rw [hei] at h11;simp at h11;subst h11
            simp only [Option.map_some,Nat.zero_add]
            rcases cupD_or cu l i e0 with ⟨h13,_⟩ | ⟨q,h13,h14,h15,_⟩
            · rw [h13,h12,hdi]
            · exfalso
              have hm:(q.1,q.2.1) ∈ cu.map (fun c=>(c.1,c.2.1)):=List.mem_map.2 ⟨q,h13,rfl⟩
              rw [h2] at hm
              obtain ⟨q',h16,h17⟩:=List.mem_map.1 hm
              simp at h17
              refine hi ?_
              simp only [dirtyI,List.mem_append]
              exact .inl (.inl (.inr (List.mem_map.2 ⟨q',h16,by rw [h17.1,h17.2,h14,h15]⟩)))
  have hA1:withinL (hasL L2) (DV.pvs args) = true:=by
    rw [hL2k];exact labsL_within c3
  have hA2:∀ l cells,lget L2 l = some (some cells) → withinL (hasL L2) cells = true:=by
    intro l cells hl
    obtain ⟨q,hq,e⟩:=List.mem_map.1 (mem_of_lget hl)
    simp only [Prod.mk.injEq] at e
    obtain ⟨rfl,hc⟩:=e
    rw [hL2k]
    obtain ⟨c,cells',h1,h2,h3⟩:=hin q.1 (List.mem_map.2 ⟨q,hq,rfl⟩)
    rw [h1] at hc
    simp only at hc
    rw [h2] at hc;simp at hc;subst hc
    cases c with
    | gone=>simp [DC.pv] at h2
    | cs ds=>simp [DC.pv] at h2;subst h2;exact labsL_within h3
    | ls t x=>
      simp [DC.pv] at h2;subst h2
      simp only [dcLabsN,Bool.or_eq_true] at h3
      exact fl_withinN h3 _
  have hA3:∀ l,lget L2 l ≠ none → lget (dlb (rnL τ o.L)) l ≠ none:=by
    intro l hl
    have:hasL L2 l = true:=by simpa [hasL,Option.isSome_iff_ne_none] using hl
    rw [hL2k] at this
    simp only [List.elem_eq_mem,decide_eq_true_eq] at this
    obtain ⟨q,hq,rfl⟩:=List.mem_map.1 this
    have hl2:=hdom q hq
    rw [lget_dlb,hrn q hl2]
    cases hoc:lget o.L q with
    | none=>exact absurd (by rw [lget_dlb,hoc];rfl) (hmemo.2 hl2)
    | some c=>simp
  have hA4:∀ l y,lget (dlb (rnL τ o.L)) l = some y → lget L2 l = none → ∃ p ∈ dlb (wlI τ rl con.ls con.ot o.L),p.1 = l:=by
    intro l y hl hn
    have h1:lget (rnL τ o.L) l ≠ none:=fun e=>by rw [lget_dlb,e] at hl;simp at hl
    obtain ⟨q,hq,rfl⟩:=lget_rn_none h1
    have hnl:q ∉ keys con.ls:=fun hm=>by
      have:hasL L2 (τ q) = true:=by rw [hL2k];simp only [List.elem_eq_mem,decide_eq_true_eq];exact List.mem_map.2 ⟨q,hm,rfl⟩
      simp only [hasL,hn] at this;simp at this
    have hnk:keptI τ rl con.ls con.ot q = false:=by
      have:lget con.ls q = none:=by
        cases hc:lget con.ls q with
        | none=>rfl
        | some c=>exact absurd (by have:(keys con.ls).elem q = true:=elemK.2 (by rw [hc];simp)
                                   simpa using this) hnl
      simp only [keptI,this,Bool.and_false]
    obtain ⟨p,hp,rfl⟩:=List.mem_map.1 hq
    exact ⟨(τ p.1,(p.2.rn τ).pv),List.mem_map.2 ⟨(τ p.1,p.2.rn τ),List.mem_map.2 ⟨p,List.mem_filter.2 ⟨hp,by simp [hnk]⟩,rfl⟩,rfl⟩,rfl⟩
  have hl2e:∀ {l:Nat},((keys con.ls).map τ).elem l = true → lget L2 l ≠ none:=fun {l} h=>by
    have:hasL L2 l = true:=by rw [hL2k];exact h
    simpa [hasL,Option.isSome_iff_ne_none] using this
  have hwc:∀ {L:Lb},(∀ l y,lget (dlb rl) l = some y → lget L l = some y) → (∀ p ∈ dlb (wlI τ rl con.ls con.ot o.L),lget (dlb rl) p.1 ≠ none ∨ lget L p.1 = none) →
      (∀ l y,lget L2 l = some y → lget L l = some y) ∧ ∀ p ∈ dlb (wlI τ rl con.ls con.ot o.L),lget L2 p.1 ≠ none ∨ lget L p.1 = none:=by
    intro L h2 h3
    refine ⟨fun l y hl=>h2 l y ?_,fun p hp=>?_⟩
    · rw [← hsub (l,y) (mem_of_lget hl)]
    · rcases h3 p hp with h4 | h4
      · left
        obtain ⟨p',hp1,rfl⟩:=List.mem_map.1 hp
        obtain ⟨⟨l,c⟩,hq1,rfl⟩:=List.mem_map.1 hp1
        have hl:l ∈ keys o.L:=List.mem_map.2 ⟨_,(List.mem_filter.1 hq1).1,rfl⟩
        have:=List.all_eq_true.1 c9 l hl
        simp only [Bool.or_eq_true,Bool.not_eq_true'] at this
        rcases this with h5 | h5
        · refine hl2e ?_
          simp only [List.elem_eq_mem,decide_eq_true_eq] at h5 ⊢;exact List.mem_map.2 ⟨l,h5,rfl⟩
        · exfalso
          simp only at h4
          rw [lget_dlb] at h4
          have:(keys rl).elem (τ l) = true:=elemK.2 fun e=>h4 (by rw [e];rfl)
          rw [this] at h5;simp at h5
      · exact .inr h4
  refine ⟨a,v,_,_,_,L2,_,rfl,hv,rn_ok τ (resV_ok hook),hwlok,hdirty,h,⟨τ,by rw [hu,ho,rn_pv]⟩,fun TT hTT hc0=>by rw [rn_pv];exact hR TT hTT hc0,hA1,hA2,hA3,hA4,hstate,hwc,fun hwk=>?_,fun hwk {L} h2 h4 l cells hl hL=>?_⟩
  · subst hwk
    simp only [wkOK,Bool.or_eq_true,Bool.not_eq_true'] at c14
    rcases c14 with h | h
    · left
      cases hc:lget L2 flab with
      | none=>rfl
      | some y=>
        have:hasL L2 flab = true:=by simp [hasL,hc]
        rw [hL2k] at this
        simp only at this
        rw [this] at h;simp at h
    · exact .inr (hl2e h)
  · subst hwk
    cases hr:lget rl l with
    | none=>exact h4 l cells (by rw [lget_dlb,hr];rfl) hL
    | some c=>
      have e1:=h2 l c.pv (by rw [lget_dlb,hr];rfl)
      rw [hL] at e1
      simp only [wkOK] at c14
      have:=List.all_eq_true.1 c14 (l,c) (mem_of_lget hr)
      simp only [Bool.or_eq_true] at this
      rcases this with h5 | h5
      · exact absurd hl (hl2e h5)
      · exact dcNoF_ok h5 (by simpa using e1.symm)
theorem dCallI_ok {wk:Bool} (hG:E.G = gtPV G) (hE:GOK E) (hal:alOk ra) (hrl:lbOk rl) {fr:Nat} {con:ICon E} {f:FuncId} {fo:Operand} {args:Array Operand} {ts:Array TypeId} {caps xs:List DV} (hf:dev G ra fo = some (.fn f caps)) (hx:devs G ra args.toList = some xs)
    (h:dCallI wk rl fr con.core f (xs ++ caps) k = some r):OpB wk E ⟨d,.call ⟨.value fo,args,ts⟩,ty,pos,after,gg⟩ ra rl k r:=by
  obtain ⟨hf',_⟩:=dev_ok hal hf
  obtain ⟨hx',hxo⟩:=devs_ok hal hx
  rw [← hG] at hf' hx'
  obtain ⟨a,v,x,wl,dl,L2,LL,rfl,hv,hxk,hwlok,hdirty,h,_,hR,hA1,hA2,hA3,hA4,hstate,hwc,hs1,hs2⟩:=dCallI_core hE hrl h
  have hcall:ACalls E con.f (DV.pvs xs ++ DV.pvs caps) L2 fun r L'=>r = x.pv ∧ L' = LL:=by
    rw [← pvs_append]
    exact hR (fun w cargs R=>Calls E.P con.f cargs.toArray w R) (fun w cargs R R' hr h=>h.mono hr) (con.ok a v hv)
  rw [pvs_append] at hA1
  refine ⟨_,_,_,?_,hxk,hwlok,hdirty,h⟩
  cases wk with
  | false=>
    have hA:AOp E ⟨d,.call ⟨.value fo,args,ts⟩,ty,pos,after,gg⟩ (dal ra) L2 x.pv (dlb wl):=
      AOp_callG (caps:=DV.pvs caps) (xs:=DV.pvs xs) (LL:=LL) hE hf' hx' con.run hcall hA1 hA2 hA3 hA4 hstate (hs1 rfl)
    intro A w σ al L a r h1 h2 h3
    obtain ⟨k1,k2⟩:=hwc h2 h3
    exact hA A w σ al L a r h1 k1 k2
  | true=>
    have hA:AOpW E ⟨d,.call ⟨.value fo,args,ts⟩,ty,pos,after,gg⟩ (dal ra) L2 x.pv (dlb wl):=
      AOp_callW (caps:=DV.pvs caps) (xs:=DV.pvs xs) (LL:=LL) hE hf' hx' con.run hcall hA1 hA2 hA3 hA4 hstate
    intro A w σ al L a r h1 h2 h3 h4
    obtain ⟨k1,k2⟩:=hwc h2 h3
    exact hA A w σ al L a r h1 k1 k2 (hs2 rfl h2 h4)
def dCallO {E:Env} (wk:Bool) (G:GTab) (con:Option (ICon E)) (o:Oper) (al:DAl) (L:DLb) (nl:Nat) {R:Type} (k:DV → DLb → DL → Option R):Option R:=match o.op with
  | .call ⟨.value fo,args,_⟩=>match dev G al fo with
    | some (.fn f caps)=>match devs G al args.toList with
      | some xs=>match con with
        | some con=>dCallI wk L nl con.core f (xs ++ caps) k
        | none=>none
      | none=>none
    | _=>none
  | _=>none
theorem dCallO_ok {wk:Bool} (hG:E.G = gtPV G) (hE:GOK E) (hal:alOk ra) (hrl:lbOk rl) {con:Option (ICon E)} {o:Oper} {nl:Nat} (h:dCallO wk G con o ra rl nl k = some r):OpB wk E o ra rl k r:=by
  obtain ⟨dst,op,ty,pos,after,g⟩:=o
  unfold dCallO at h
  simp only at h
  split at h
  · split at h
    · rename_i hf
      split at h
      · rename_i hx
        split at h
        · exact dCallI_ok hG hE hal hrl hf hx h
        · simp at h
      · simp at h
    · simp at h
  · simp at h
/-- What a round of a range over a function does: it goes on. -/
structure YCon (E:Env) where
  y:Nat
  ar:List Sh
  ls:List (Nat × LSh)
  ot:Tm
  fn:HT (Sh.hss ar ++ hsL ls) → Option ot.T
  ok:∀ a v,fn a = some v → ∀ ro cvs cxs,cvs.length + cxs.length = ar.length → cxs.length = (SentA.yt y).ps.length →
    CoreT E ⟨0,ar,ls,ot,fn⟩ a v (yieldT ro E.P (SentA.yt y).n (SentA.yt y).ps (SentA.yt y).assign (SentA.yt y).body (SentA.yt y).ts cvs cxs)
  res:∀ v vs,(resV (ot.app v (inS ar ls vs))).pv = .bool true
def YCon.core {E:Env} (c:YCon E):ICore:=⟨0,c.ar,c.ls,c.ot,c.fn⟩
def dYld {E:Env} (G:GTab) (con:YCon E) (o:Oper) (al:DAl) (L:DLb) (nl:Nat) {R:Type} (k:DLb → DL → Option R):Option R:=match o.op with
  | .call ⟨.value fo,args,_⟩=>match dev G al fo with
    | some (.yl i vs)=>match Nat.beq i con.y with
      | true=>match devs G al args.toList with
        | some xs=>match Nat.beq xs.length (SentA.yt con.y).ps.length with
          | true=>match Nat.beq (vs.length + xs.length) con.ar.length with
            | true=>dCallI false L nl con.core 0 (vs ++ xs) fun _ wl dl=>k wl dl
            | false=>none
          | false=>none
        | none=>none
      | false=>none
    | _=>none
  | _=>none
theorem dYld_ok {K:Nat → Prop} {n:Nat} {Q:Exit → Al → Lb → Prop} {ops:Array Oper} {rest:List Oper} (hG:E.G = gtPV G) (hE:GOK E) {s:St} (hs:s.ok) {con:YCon E} {o:Oper} {nl:Nat} {k:DLb → DL → Option R} (h:dYld G con o s.al s.L nl k = some r)
    (hd:∀ t,o.dst = some t → t < n) (hg:wants ops (dal s.al) o = some true) :
    ∃ wl dl,wlOk wl ∧ DirtyOK s.L wl dl ∧ k wl dl = some r ∧ (AWl E K n ops rest Q (oset o.dst (.bool true) (dal s.al)) (lupd (dlb s.L) (dlb wl)) → AWl E K n ops (o :: rest) Q (dal s.al) (dlb s.L)):=by
  obtain ⟨dst,op,ty,pos,after,gu⟩:=o
  unfold dYld at h
  simp only at h
  split at h
  rotate_left
  · simp at h
  rename_i fo args ts
  split at h
  rotate_left
  · simp at h
  rename_i i vs hf
  split at h
  rotate_left
  · simp at h
  rename_i hi
  have hi:=Nat.eq_of_beq_eq_true hi
  subst hi
  split at h
  rotate_left
  · simp at h
  rename_i xs hx
  split at h
  rotate_left
  · simp at h
  rename_i hl1
  have hl1:=Nat.eq_of_beq_eq_true hl1
  split at h
  rotate_left
  · simp at h
  rename_i hl2
  have hl2:=Nat.eq_of_beq_eq_true hl2
  obtain ⟨hf',_⟩:=dev_ok hs.1 hf
  obtain ⟨hx',_⟩:=devs_ok hs.1 hx
  rw [← hG] at hf' hx'
  obtain ⟨a,v,x,wl,dl,L2,LL,_,hv,hxk,hwlok,hdirty,h,⟨τ,hxe⟩,hR,hA1,hA2,hA3,hA4,hstate,hwc,hs1,hs2⟩:=dCallI_core hE hs.2 h
  refine ⟨wl,dl,hwlok,hdirty,h,fun kk=>?_⟩
  have hxt:x.pv = .bool true:=by
    rw [hxe]
    have e:(resV (con.core.ot.app v (inS con.core.ar con.core.ls (unpack (Sh.hss con.core.ar ++ hsL con.core.ls) a)))).pv = .bool true:=con.res v _
    rw [e];rfl
  rw [pvs_append] at hA1
  obtain ⟨k1,k2⟩:=hwc (L:=dlb s.L) (fun _ _ h=>h) fun p _=>by
    cases hc:lget (dlb s.L) p.1 with
    | none=>exact .inr rfl
    | some y=>exact .inl (by simp)
  refine AWl_yield (vs:=DV.pvs vs) (xs:=DV.pvs xs) (rl:=L2) (LL:=LL) (wl:=dlb wl) hE hf' hx' (by rw [pvs_length];exact hl1.symm) (fun cvs cxs e1 e2=>?_) hA1 hA2 hA3 hA4 hstate (hs1 rfl) k1 k2 hd hg kk
  rw [pvs_length] at e1 e2
  have:=hR _ yieldT_mono (con.ok a v hv E.ro cvs cxs (by omega) (by omega))
  rw [pvs_append,hxt] at this
  exact this
/-- The contracts at hand. -/
structure CT (E:Env) where
  p:Nat → Option (PCon E)
  i:Nat → Option (ICon E)
  y:Nat → Option (YCon E)
def dOpX (E:Env) (G:GTab) (C:CT E) (oh:OH) (o:Oper) (al:DAl) (L:DLb) (nl:Nat) {R:Type} (k:DV → DLb → DL → Option R):Option R:=match oh.io with
  | none=>dOp E G C.p oh o al L nl k
  | some j=>dCallO false G (C.i j) o al L nl k
theorem dOpX_ok (hG:E.G = gtPV G) (hE:GOK E) {C:CT E} {oh:OH} {o:Oper} {nl:Nat} (hal:alOk ra) (hrl:lbOk rl) (hn:lget rl nl = none) (h:dOpX E G C oh o ra rl nl k = some r):OpS E o ra rl k r:=by
  unfold dOpX at h
  split at h
  · exact dOp_ok hG hE hal hrl hn h
  · exact dCallO_ok hG hE hal hrl h
end
end Go.SH
namespace Go.SH
variable [SentA]
theorem freeze_val {w:World} {σ:Sig} {A:Nat → Prop} {L:Lb} (hb:BR w σ A L) {l off n sz:Nat} {co:Option Nat} {cells part:List PV} (hl:lget L l = some (some cells)) (hp:(cells.drop off).take (n * sz) = part) (hin:off + n * sz ≤ cells.length)
    (hpure:withinL (fun _=>false) part = true) {v:Value} (h:VR w σ (avo A σ L) (.rw l off n sz co) v):VR w σ (avo A σ (lset L l none)) (.ro part n none) v:=by
  have hav:∀ β,avOf σ (lset L l none) β → avOf σ L β:=by
    rintro β (⟨k,d,a,s,hk,hs⟩ | h)
    · rw [lget_lset] at hk
      split at hk
      · simp at hk
      · exact .inl ⟨k,d,a,s,hk,hs⟩
    · exact .inr h
  have h1:∀ β,¬ avo A σ L β → ¬ avo A σ (lset L l none) β:=fun β hn h=>hn (h.imp id (hav β))
  cases h with
  | rwE a hc=>
    have:part = []:=by rw [← hp];simp
    subst this
    exact .roE a 0 (by simp)
  | @rw _ _ _ _ _ β add size cap hs hn hc hsz=>
    rcases hb.all l cells hl with ⟨h3,h4⟩ | ⟨β',add',size',c,T,fr,hB⟩
    · rw [hs] at h3;simp at h3
    · have:=hB.sig;rw [hs] at this;simp at this
      obtain ⟨rfl,rfl,rfl⟩:=this
      have hlen:part.length = n * sz:=by rw [← hp];simp;omega
      have hlt:β < w.heap.size:=(Array.getElem?_eq_some_iff.1 hB.heap).1
      have hna:¬ avo A σ (lset L l none) β:=by
        rintro (hA | ⟨k,d,a,s,hk,hks⟩ | ⟨q,ad,hq⟩)
        rotate_left 2
        · exact (hb.fr.fam q β ad hq).2 ⟨l,cells,add,size,hl,hs⟩
        · exact (hb.lo β hA).2 (.inl ⟨l,cells,add,size,hl,hs⟩)
        · rw [lget_lset] at hk
          split at hk
          · simp at hk
          · rename_i hne;exact hne (hb.inj l k cells d β add size a s hl hk hs hks)
      have get:∀ i x,part[i]? = some x → cells[off + i]? = some x:=by
        intro i x hx
        rw [← hp,List.getElem?_take] at hx
        split at hx
        · rw [List.getElem?_drop] at hx;exact hx
        · simp at hx
      let f:Nat → Value:=fun i=>(c[add + off + i]?).getD undef
      refine .ro ((List.range (n * sz)).map f) ⟨hlt,hna,fun i v hv=>?_⟩ (by simp [hlen]) (fun i x v hx hv=>?_) hn (by simp)
      · have hi:i < n * sz:=by have:=(List.getElem?_eq_some_iff.1 hv).1;simpa using this
        have hi2:i < part.length:=by omega
        obtain ⟨u,h5,h6⟩:=hB.vals _ _ (get i _ (List.getElem?_eq_getElem hi2))
        rw [cell_of_heap hB.heap]
        rw [← Nat.add_assoc] at h5
        simp [List.getElem?_range hi,f,h5] at hv
        rw [h5,hv]
      · have hi:i < n * sz:=by have:=(List.getElem?_eq_some_iff.1 hv).1;simpa using this
        obtain ⟨u,h5,h6⟩:=hB.vals _ _ (get i x hx)
        rw [← Nat.add_assoc] at h5
        simp [List.getElem?_range hi,f,h5] at hv
        rw [← hv]
        exact h6.pure (withinL_get hpure hx) h1
theorem Weak.frz {E:Env} {K:Nat → Prop} {al:Al} {L:Lb} {lab:Nat} {cells:List PV} (hl:lget L lab = some (some cells)) {t off n sz:Nat} {co:Option Nat} (ht:lget al t = some (.rw lab off n sz co)) {part ys:List PV}
    (hp:(cells.drop off).take (n * sz) = part) (hin:off + n * sz ≤ cells.length) (hpu:withinL (fun _=>false) part = true) (hle:CLe part ys):Weak E K al L ((t,.ro ys n none) :: al) (lset L lab none):=by
  intro A w σ a r
  obtain ⟨hb,hg⟩:=r.blocks.drop lab
  have r':=r.grow hb hg
  refine ⟨σ,⟨fun u x hx=>?_,hb,r'.globals,r'.nodefer⟩,hg.weaken fun _ _=>trivial⟩
  rw [lget] at hx
  split at hx
  · rename_i e;subst e;simp at hx;subst hx
    obtain ⟨v,h1,h2⟩:=r.tmps t _ ht
    exact ⟨v,h1,PLe.ro hle _ _ _ _ (freeze_val r.blocks hl hp hin hpu h2)⟩
  · exact r'.tmps u x hx
/-- Which function it is. -/
def fkS {R:Type} (i:Nat) (k:DV → Option R):List FuncId → Nat → Option R
  | [],_=>none
  | f :: r,j=>cond (Nat.beq i j) (k (.fn f [])) (fkS i k r (j + 1))
def fkK {R:Type} (fs:List FuncId) (i:Nat) (k:DV → Option R):Option R:=cond (Nat.beq i 0) (k .nilf) (fkS i k fs 1)
theorem fkS_ok {R:Type} {r:R} {i:Nat} {k:DV → Option R}:∀ {fs:List FuncId} {j:Nat},fkS i k fs j = some r → ∃ m f,i = j + m ∧ fs[m]? = some f ∧ k (.fn f []) = some r
  | [],j,h=>by simp [fkS] at h
  | f :: fs,j,h=>by
    simp only [fkS] at h
    cases e:Nat.beq i j with
    | true=>rw [e] at h;exact ⟨0,f,Nat.eq_of_beq_eq_true e,rfl,h⟩
    | false=>
      rw [e] at h
      obtain ⟨m,g,h1,h2,h3⟩:=fkS_ok h
      exact ⟨m + 1,g,by omega,by simpa using h2,h3⟩
theorem fkK_ok {R:Type} {r:R} {fs:List FuncId} {i:Nat} {k:DV → Option R} (h:fkK fs i k = some r):∃ d,d.pv = fnK fs i ∧ d.ok ∧ k d = some r:=by
  unfold fkK at h
  cases e:Nat.beq i 0 with
  | true=>rw [e] at h;rw [Nat.eq_of_beq_eq_true e];exact ⟨.nilf,rfl,trivial,h⟩
  | false=>
    rw [e] at h
    obtain ⟨m,f,rfl,h2,h3⟩:=fkS_ok h
    refine ⟨.fn f [],?_,trivial,h3⟩
    rw [Nat.add_comm]
    simp [fnK,h2,DV.pv,DV.pvs]
theorem Weak.same {E:Env} {K:Nat → Prop} {al al':Al} {L:Lb} (h:∀ t x,lget al' t = some x → lget al t = some x):Weak E K al L al' L:=fun A w σ a r=>
  ⟨σ,⟨fun u x hx=>r.tmps u x (h u x hx),r.blocks,r.globals,r.nodefer⟩,Grow.refl _ _ _ _⟩
def dFz {R:Type}:List (Nat × ET) → St → (St → Option R) → Option R
  | [],s,k=>k s
  | (t,e) :: r,s,k=>match lget s.al t with
    | some (.rw lab sz off n co w)=>if pureAt s.L lab = true then srcL s.L e (.rw lab sz off n co w) fun l=>
        dFz r { al:=(t,.sl e l) :: s.al,L:=lset s.L lab .gone,ds:=t :: s.ds,dl:=(lab,none) :: s.dl } k else none
    | some (.fk fs i)=>fkK fs i fun d=>dFz r { s with al:=(t,d) :: s.al,ds:=t :: s.ds } k
    | some _=>dFz r s k
    | none=>none
section
variable {E:Env} {K:Nat → Prop} {n:Nat} {Q:Exit → Al → Lb → Prop} {ops:Array Oper} {rest:List Oper} {R:Type} {r:R}
theorem dFz_ok:∀ {fz:List (Nat × ET)} {s:St} {k:St → Option R},dFz fz s k = some r → s.ok → ∃ s',Up s s' ∧ s'.ok ∧ k s' = some r ∧ Weak E K (dal s.al) (dlb s.L) (dal s'.al) (dlb s'.L)
  | [],s,k,h,hs=>⟨s,.refl s,hs,h,.refl⟩
  | (t,e) :: fz,s,k,h,hs=>by
    simp only [dFz] at h
    split at h
    · rename_i lab sz off n co w ht
      split at h
      · rename_i hp
        obtain ⟨l,cells,hc,h'⟩:=srcL_ok h
        clear h
        obtain ⟨cc,c1,c2,c3,c4,c5⟩:=hc.rw _ _ _ _ _ _ rfl
        subst c5;subst c3
        have hu:Up s { al:=(t,.sl e l) :: s.al,L:=lset s.L lab .gone,ds:=t :: s.ds,dl:=(lab,none) :: s.dl }:=by
          have h1:=wr_up (s:=s) (wl:=[(lab,.gone)]) (dl:=[(lab,none)]) (fun p hp=>by simp at hp;subst hp;exact .inl (by simp))
          exact h1.trans (set_up _ (some t) (.sl e l))
        have ho:St.ok { al:=(t,.sl e l) :: s.al,L:=lset s.L lab .gone,ds:=t :: s.ds,dl:=(lab,none) :: s.dl }:=by
          have h1:=wr_ok hs (wl:=[(lab,.gone)]) (dl:=[(lab,none)]) (fun p hp=>by simp at hp;subst hp;trivial)
          exact set_ok h1 (d:=some t) (x:=.sl e l) trivial
        have hw:Weak E K (dal s.al) (dlb s.L) (dal ((t,.sl e l) :: s.al)) (dlb (lset s.L lab .gone)):=by
          have e1:dlb (lset s.L lab .gone) = lset (dlb s.L) lab none:=(lset_map DC.pv s.L lab .gone).symm
          rw [e1]
          refine Weak.frz c1 (off:=off * e.sz) (sz:=e.sz) (n:=l.length) (co:=co) (by rw [lget_dal,ht];rfl) c4 c2 ?_ hc.le
          rw [← c4]
          unfold pureAt at hp
          split at hp
          · rename_i c hcc
            rw [lget_dlb,hcc] at c1
            exact part_pure (dcPure_ok hp (by simpa using c1)) _ _
          · simp at hp
        obtain ⟨s',u',o',k',w'⟩:=dFz_ok h' ho
        exact ⟨s',hu.trans u',o',k',hw.trans w'⟩
      · simp at h
    · rename_i fs i ht
      obtain ⟨d,e1,e2,h⟩:=fkK_ok h
      obtain ⟨s',u',o',k',w'⟩:=dFz_ok h (set_ok hs (d:=some t) (x:=d) e2)
      refine ⟨s',(set_up s (some t) d).trans u',o',k',Weak.trans (Weak.same fun u x hx=>?_) w'⟩
      rw [lget_dal] at hx ⊢
      simp only [lget] at hx
      split at hx
      · rename_i e;subst e
        rw [ht];simp only [Option.map_some] at hx ⊢
        rw [← hx,e1];rfl
      · exact hx
    · exact dFz_ok h hs
    · simp at h
/-- Nothing of a family. -/
def okF (d:DV):Bool:=d.labs noF && d.noF
def St.dropF (s:St):St:=
  let ts:=(s.al.filter fun p=>!okF p.2).map (·.1)
  { s with al:=ded ts s.al,ds:=ts ++ s.ds }
theorem dropF_mem {s:St} {p:Nat × DV} (h:p ∈ s.dropF.al):lget s.al p.1 = some p.2 ∧ okF p.2 = true:=by
  obtain ⟨h1,h2⟩:=ded_mem h
  refine ⟨h2,?_⟩
  cases hk:okF p.2 with
  | true=>rfl
  | false=>exact absurd (List.mem_map.2 ⟨(p.1,p.2),List.mem_filter.2 ⟨mem_of_lget h2,by simp [hk]⟩,rfl⟩) h1
theorem dropF_up (s:St):Up s s.dropF:=fun b h=>⟨fun t ht=>by
  simp only [St.dropF,List.mem_append,not_or] at ht ⊢
  rw [ded_get ht.1];exact h.sl t ht.2,h.lb,h.ce⟩
theorem dropF_ok {s:St} (h:s.ok):s.dropF.ok:=⟨fun t x hx=>h.1 t x (dropF_mem (mem_of_lget hx)).1,h.2⟩
theorem dropF_noF (s:St) (t:Nat) (x:PV) (hx:lget (dal s.dropF.al) t = some x):within noF x = true:=by
  rw [lget_dal] at hx
  cases hd:lget s.dropF.al t with
  | none=>rw [hd] at hx;simp at hx
  | some d=>
    rw [hd] at hx;simp at hx;subst hx
    have:=(dropF_mem (mem_of_lget hd)).2
    simp only [okF,Bool.and_eq_true] at this
    exact labs_withinN this.1 (.inl this.2)
theorem dropF_weak (s:St):Weak E K (dal s.al) (dlb s.L) (dal s.dropF.al) (dlb s.dropF.L):=Weak.sub fun p hp=>by
  obtain ⟨q,hq,rfl⟩:=List.mem_map.1 hp
  simp only;rw [lget_dal,(dropF_mem hq).1];rfl
/-- The two families trade places. -/
def sq:Nat → Nat
  | 1=>2
  | 2=>1
  | n=>n
theorem sq_sq (n:Nat):sq (sq n) = n:=by
  match n with
  | 0=>rfl
  | 1=>rfl
  | 2=>rfl
  | n + 3=>rfl
/-- A cell where the families trade places. -/
def SwC (x y:PV):Prop:=(x = y ∧ within noF x = true) ∨ ∃ q c n co,x = .fs q c n co ∧ withinL (fun _=>false) c = true ∧ y = .fs (sq q) c n co
theorem VR.sw {w:World} {σ:Sig} {av:Nat → Prop} {x y:PV} {v:Value} (h:VR w σ av x v) (hs:SwC x y):VR w ⟨σ.lab,fun q β add=>σ.fam (sq q) β add⟩ av y v:=by
  rcases hs with ⟨rfl,hn⟩ | ⟨q,c,n,co,rfl,hc,rfl⟩
  · exact h.monoN hn (fun _ _ _ h=>h) (Nat.le_refl _) fun _ _ h=>⟨h,rfl⟩
  · cases h with
    | fsE a cap hc=>exact .fsE a cap hc
    | fs hf hh hfr hl hv hn hc' hz=>exact .fs (by simpa [sq_sq] using hf) hh hfr hl (fun i x v hx hv'=>(hv i x v hx hv').pure (withinL_get hc hx) fun _ h=>h) hn hc' hz
theorem Weak.recol {al:Al} {L L':Lb} (hal:∀ t x,lget al t = some x → within noF x = true) (hK:¬ K fkeep) (hG:GOK E)
    (hL:∀ l,(lget L l = none ∧ lget L' l = none) ∨ (lget L l = some none ∧ lget L' l = some none) ∨ ∃ xs ys,lget L l = some (some xs) ∧ lget L' l = some (some ys) ∧ xs.length = ys.length ∧ ∀ (i:Nat) (x y:PV),xs[i]? = some x → ys[i]? = some y → SwC x y):Weak E K al L al L':=by
  intro A w σ a r
  let σ':Sig:=⟨σ.lab,fun q β add=>σ.fam (sq q) β add⟩
  have hlav:∀ β,labOf σ' L' β ↔ labOf σ L β:=by
    intro β
    constructor
    · rintro ⟨l,c,a,s,h1,h2⟩
      rcases hL l with ⟨_,h⟩ | ⟨_,h⟩ | ⟨xs,ys,h,h',_⟩
      · rw [h] at h1;simp at h1
      · rw [h] at h1;simp at h1
      · exact ⟨l,xs,a,s,h,h2⟩
    · rintro ⟨l,c,a,s,h1,h2⟩
      rcases hL l with ⟨h,_⟩ | ⟨h,_⟩ | ⟨xs,ys,h,h',_⟩
      · rw [h] at h1;simp at h1
      · rw [h] at h1;simp at h1
      · exact ⟨l,ys,a,s,h',h2⟩
  have hfm:∀ β,famOf σ' β ↔ famOf σ β:=fun β=>⟨fun ⟨q,ad,h⟩=>⟨sq q,ad,h⟩,fun ⟨q,ad,h⟩=>⟨sq q,ad,by show σ.fam (sq (sq q)) β ad;rw [sq_sq];exact h⟩⟩
  have hav:∀ β,avOf σ' L' β ↔ avOf σ L β:=fun β=>or_congr (hlav β) (hfm β)
  have havo:avo A σ' L' = avo A σ L:=by
    funext β
    show (A β ∨ avOf σ' L' β) = (A β ∨ avOf σ L β)
    rw [propext (hav β)]
  have hsw:∀ {x y v},VR w σ (avo A σ L) x v → SwC x y → VR w σ' (avo A σ' L') y v:=fun h hs=>by rw [havo];exact h.sw hs
  refine ⟨σ',⟨fun t x hx=>let ⟨v,h1,h2⟩:=r.tmps t x hx;⟨v,h1,hsw h2 (.inl ⟨rfl,hal t x hx⟩)⟩,⟨?_,?_,?_,?_,?_⟩,fun g cells hg=>hsw (r.globals g cells hg) (.inl ⟨rfl,within_false (by simp [pureV,within,hG g cells hg])⟩),r.nodefer⟩,
    ⟨Nat.le_refl _,fun _ _ _ h=>h,fun β _ hn=>⟨fun h=>hn ((hav β).1 h),rfl⟩,⟨rfl,rfl,rfl⟩,fun k=>absurd k hK⟩⟩
  · intro l ys hl
    rcases hL l with ⟨_,h⟩ | ⟨_,h⟩ | ⟨xs,ys',h1,h2,h3,h4⟩
    · rw [h] at hl;simp at hl
    · rw [h] at hl;simp at hl
    · rw [h2] at hl;simp at hl;subst hl
      rcases r.blocks.all l xs h1 with ⟨h5,h6⟩ | ⟨β,add,size,c,T,fr,hB⟩
      · exact .inl ⟨h5,by subst h6;exact List.eq_nil_of_length_eq_zero h3.symm⟩
      · refine .inr ⟨β,add,size,c,T,fr,⟨hB.sig,hB.heap,hB.hsz,h3 ▸ hB.fits,fun i y hy=>?_,hB.frs⟩⟩
        have hi:i < xs.length:=by rw [h3];exact (List.getElem?_eq_some_iff.1 hy).1
        obtain ⟨v,h7,h8⟩:=hB.vals i _ (List.getElem?_eq_getElem hi)
        exact ⟨v,h7,hsw h8 (h4 i _ y (List.getElem?_eq_getElem hi) hy)⟩
  · intro l l' c c' β a s a' s' h1 h2 h3 h4
    rcases hL l with ⟨_,h5⟩ | ⟨_,h5⟩ | ⟨xs,_,h5,_⟩
    · rw [h5] at h1;simp at h1
    · rw [h5] at h1;simp at h1
    · rcases hL l' with ⟨_,h6⟩ | ⟨_,h6⟩ | ⟨xs',_,h6,_⟩
      · rw [h6] at h2;simp at h2
      · rw [h6] at h2;simp at h2
      · exact r.blocks.inj l l' xs xs' β a s a' s' h5 h6 h3 h4
  · intro l x hx
    have:=r.blocks.dom l x hx
    rcases hL l with ⟨h,_⟩ | ⟨_,h⟩ | ⟨_,_,_,h,_⟩
    · exact absurd h this
    · rw [h];simp
    · rw [h];simp
  · intro β hA
    exact ⟨(r.blocks.lo β hA).1,fun h=>(r.blocks.lo β hA).2 ((hav β).1 h)⟩
  · refine ⟨fun q β add h=>⟨(r.blocks.fr.fam _ β add h).1,fun k=>(r.blocks.fr.fam _ β add h).2 ((hlav β).1 k)⟩,fun q β add h=>r.blocks.fr.cel _ β add h,fun q q' β add add' h h'=>?_⟩
    obtain ⟨e1,e2⟩:=r.blocks.fr.one _ _ β add add' h h'
    refine ⟨?_,e2⟩
    have:=congrArg sq e1
    simpa [sq_sq] using this
/-- A list of a family's slices where the families trade places. -/
def famQ:(t:ET) → List t.T → Option DC
  | .tf q t,x=>if t.noF = true then some (.ls (.tf (sq q) t) x) else none
  | _,_=>none
def swW (L:DLb):DLb → Option DLb
  | []=>some []
  | (l,_) :: r=>match lget L l with
    | some (.ls t x)=>match famQ t x with
      | some c=>match swW L r with
        | some wl=>some ((l,c) :: wl)
        | none=>none
      | none=>if t.noF = true then swW L r else none
    | some c=>if dcNoF c = true then swW L r else none
    | none=>swW L r
/-- How a label's cells are told behind it. -/
def SwD (c c':DC):Prop:=(c = c' ∧ dcNoF c = true) ∨ ∃ t x,c = .ls t x ∧ famQ t x = some c'
theorem swW_ok {L:DLb}:∀ {r wl:DLb},swW L r = some wl → (∀ p ∈ wl,∃ c,lget L p.1 = some c ∧ SwD c p.2) ∧ ∀ p ∈ r,p.1 ∈ keys wl ∨ ∀ c,lget L p.1 = some c → dcNoF c = true
  | [],wl,h=>by simp [swW] at h;subst h;simp
  | (l,_) :: r,wl,h=>by
    simp only [swW] at h
    split at h
    · rename_i t x hl
      split at h
      · rename_i c hc
        split at h
        · rename_i wl' hw
          simp at h;subst h
          obtain ⟨h1,h2⟩:=swW_ok hw
          refine ⟨fun p hp=>?_,fun p hp=>?_⟩
          · rcases List.mem_cons.1 hp with rfl | hp
            · exact ⟨_,hl,.inr ⟨t,x,rfl,hc⟩⟩
            · exact h1 p hp
          · rcases List.mem_cons.1 hp with rfl | hp
            · exact .inl (by simp [keys])
            · exact (h2 p hp).imp (fun h=>by simp only [keys,List.map_cons,List.mem_cons];exact .inr h) id
        · simp at h
      · split at h
        · rename_i ht
          obtain ⟨h1,h2⟩:=swW_ok h
          refine ⟨h1,fun p hp=>?_⟩
          rcases List.mem_cons.1 hp with rfl | hp
          · exact .inr fun c hc=>by simp only at hc;rw [hl] at hc;simp at hc;subst hc;exact ht
          · exact h2 p hp
        · simp at h
    · rename_i c hcn hl
      split at h
      · rename_i hd
        obtain ⟨h1,h2⟩:=swW_ok h
        refine ⟨h1,fun p hp=>?_⟩
        rcases List.mem_cons.1 hp with rfl | hp
        · exact .inr fun c hc=>by simp only at hc;rw [hl] at hc;simp at hc;subst hc;exact hd
        · exact h2 p hp
      · simp at h
    · rename_i hl
      obtain ⟨h1,h2⟩:=swW_ok h
      refine ⟨h1,fun p hp=>?_⟩
      rcases List.mem_cons.1 hp with rfl | hp
      · exact .inr fun c hc=>by simp only at hc;rw [hl] at hc;simp at hc
      · exact h2 p hp
theorem swD_cells {c c':DC} (h:SwD c c'):(c.pv = none ∧ c'.pv = none) ∨ ∃ xs ys,c.pv = some xs ∧ c'.pv = some ys ∧ xs.length = ys.length ∧ ∀ (i:Nat) (x y:PV),xs[i]? = some x → ys[i]? = some y → SwC x y:=by
  rcases h with ⟨rfl,h⟩ | ⟨t,x,rfl,h⟩
  · cases hc:c.pv with
    | none=>exact .inl ⟨rfl,rfl⟩
    | some xs=>exact .inr ⟨xs,xs,rfl,rfl,rfl,fun i x y hx hy=>.inl ⟨by rw [hx] at hy;simpa using hy,withinL_get (dcNoF_ok h hc) hx⟩⟩
  · right
    unfold famQ at h
    split at h
    · rename_i q t x
      split at h
      · rename_i ht
        simp at h;subst h
        refine ⟨_,_,rfl,rfl,?_,fun i a b ha hb=>?_⟩
        · rw [fl_length,fl_length,el_sz,el_sz];rfl
        · have e1:∀ q (l:List (List t.T)),fl (el (.tf q t)) l = l.map fun x=>PV.fs q (fl (el t) x) x.length none:=fun q l=>by
            induction l with
            | nil=>rfl
            | cons x l ih=>rw [fl_cons,ih];rfl
          rw [e1] at ha hb
          simp only [List.getElem?_map,Option.map_eq_some_iff] at ha hb
          obtain ⟨z,hz,rfl⟩:=ha
          obtain ⟨z',hz',rfl⟩:=hb
          have hz2:(x:List (List t.T))[i]? = some z':=hz'
          rw [hz] at hz2;simp at hz2;subst hz2
          exact .inr ⟨_,_,_,_,rfl,fl_noF ht z,rfl⟩
      · simp at h
    · simp at h
theorem swW_weak {s:St} {wl:DLb} (h:swW s.L s.L = some wl) (hal:∀ t x,lget (dal s.al) t = some x → within noF x = true) (hK:¬ K fkeep) (hG:GOK E) :
    Weak E K (dal s.al) (dlb s.L) (dal s.al) (dlb (lupd s.L wl)):=by
  obtain ⟨h1,h2⟩:=swW_ok h
  refine Weak.recol hal hK hG fun l=>?_
  rw [lget_dlb,lget_dlb]
  have key:∀ {c c'},lget s.L l = some c → lget (lupd s.L wl) l = some c' → SwD c c' → (Option.map DC.pv (lget s.L l) = none ∧ Option.map DC.pv (lget (lupd s.L wl) l) = none) ∨ (Option.map DC.pv (lget s.L l) = some none ∧ Option.map DC.pv (lget (lupd s.L wl) l) = some none) ∨ ∃ xs ys,Option.map DC.pv (lget s.L l) = some (some xs) ∧ Option.map DC.pv (lget (lupd s.L wl) l) = some (some ys) ∧ xs.length = ys.length ∧ ∀ (i:Nat) (x y:PV),xs[i]? = some x → ys[i]? = some y → SwC x y:=by
    intro c c' e1 e2 hs
    rw [e1,e2]
    rcases swD_cells hs with ⟨h3,h4⟩ | ⟨xs,ys,h3,h4,h5,h6⟩
    · exact .inr (.inl ⟨by simp [h3],by simp [h4]⟩)
    · exact .inr (.inr ⟨xs,ys,by simp [h3],by simp [h4],h5,h6⟩)
  rcases lget_lupdG wl s.L l with ⟨p,hp,rfl,h3⟩ | ⟨h3,h4⟩
  · obtain ⟨c,h5,h6⟩:=h1 p hp
    exact key h5 h3 h6
  · cases hc:lget s.L l with
    | none=>exact .inl ⟨rfl,by rw [h4,hc];rfl⟩
    | some c=>
      rw [hc] at key h4
      refine key rfl h4 (.inl ⟨rfl,?_⟩)
      rcases h2 (l,c) (mem_of_lget hc) with h5 | h5
      · obtain ⟨p,hp,e⟩:=List.mem_map.1 h5
        exact absurd e (h3 p hp)
      · exact h5 c hc
def St.swF {R:Type} (s:St) (k:St → Option R):Option R:=match swW s.dropF.L s.dropF.L with
  | some wl=>k (s.dropF.wr wl (wl.map fun p=>(p.1,none)))
  | none=>none
theorem swF_ok {s:St} {k:St → Option R} (hK:¬ K fkeep) (hG:GOK E) (h:s.swF k = some r) (hs:s.ok):∃ s',Up s s' ∧ s'.ok ∧ k s' = some r ∧ Weak E K (dal s.al) (dlb s.L) (dal s'.al) (dlb s'.L):=by
  unfold St.swF at h
  split at h
  · rename_i wl hw
    refine ⟨_,(dropF_up s).trans (wr_up fun p hp=>.inl (List.mem_map.2 ⟨p,hp,rfl⟩)),wr_ok (dropF_ok hs) fun p hp=>?_,h,(dropF_weak s).trans (swW_weak hw (dropF_noF s) hK hG)⟩
    obtain ⟨c,h1,h2⟩:=(swW_ok hw).1 p hp
    rcases h2 with ⟨rfl,_⟩ | ⟨t,x,rfl,h2⟩
    · exact (dropF_ok hs).2 _ _ h1
    · unfold famQ at h2
      split at h2
      · split at h2
        · simp at h2;rw [← h2];trivial
        · simp at h2
      · simp at h2
  · simp at h
def dFzO:List (Nat × ET) → DAl → DLb → DLb → (DAl → DLb → DLb → Option R) → Option R
  | [],al,L,wl,k=>k al L wl
  | (t,e) :: r,al,L,wl,k=>match lget al t with
    | some (.rw lab sz off n co w)=>if pureAt L lab = true then srcL L e (.rw lab sz off n co w) fun l=>dFzO r ((t,.sl e l) :: al) (lset L lab .gone) (wl ++ [(lab,.gone)]) k else none
    | some _=>dFzO r al L wl k
    | none=>none
def SubA (a b:Al):Prop:=∀ t y,lget a t = some y → lget b t = some y
def SubB (a b:Lb):Prop:=∀ l y,lget a l = some y → lget b l = some y
theorem dFzO_ok:∀ {fz:List (Nat × ET)} {al:DAl} {L wl:DLb} {k:DAl → DLb → DLb → Option R},dFzO fz al L wl k = some r → alOk al → lbOk L → ∃ al' L' w0,k al' L' (wl ++ w0) = some r ∧ alOk al' ∧ lbOk L' ∧ (∀ p ∈ w0,p.2 = .gone ∧ lget L p.1 ≠ none) ∧
    (∀ l,lget L' l ≠ none ↔ lget L l ≠ none) ∧ (∀ l cs,lget L' l = some (.cs cs) → lget L l = some (.cs cs)) ∧
    ∀ A w σ alw Lw a,Rel E A w σ alw Lw a → SubA (dal al) alw → SubB (dlb L) Lw → ∃ alw' σ',Rel E A w σ' alw' (lupd Lw (dlb w0)) a ∧ SubA (dal al') alw' ∧ SubB (dlb L') (lupd Lw (dlb w0)) ∧ Grow top w σ Lw w σ' (lupd Lw (dlb w0))
  | [],al,L,wl,k,h,ha,hl=>⟨al,L,[],by simpa [dFzO] using h,ha,hl,by simp,fun _=>Iff.rfl,fun _ _ h=>h,fun A w σ alw Lw a r h1 h2=>⟨alw,σ,r,h1,h2,Grow.refl _ _ _ _⟩⟩
  | (t,e) :: fz,al,L,wl,k,h,ha,hl=>by
    simp only [dFzO] at h
    split at h
    · rename_i lab sz off n co w ht
      split at h
      · rename_i hp
        obtain ⟨l,cells,hc,h'⟩:=srcL_ok h
        obtain ⟨cc,c1,c2,c3,c4,c5⟩:=hc.rw _ _ _ _ _ _ rfl
        subst c5;subst c3
        have hex:lget L lab ≠ none:=fun e=>by rw [lget_dlb,e] at c1;simp at c1
        obtain ⟨al',L',w0,k1,k2,k3,k4,k5,k6,k7⟩:=dFzO_ok h' (fun u x hx=>by
          simp only [lget] at hx
          split at hx
          · simp at hx;subst hx;trivial
          · exact ha u x hx) (fun u c hc=>by
          rw [lget_lset] at hc
          split at hc
          · simp at hc;subst hc;trivial
          · exact hl u c hc)
        refine ⟨al',L',(lab,.gone) :: w0,by simpa using k1,k2,k3,fun p hp=>?_,fun l'=>?_,fun l' cs hcs=>?_,fun A w σ alw Lw a r h1 h2=>?_⟩
        · rcases List.mem_cons.1 hp with rfl | hp
          · exact ⟨rfl,hex⟩
          · obtain ⟨e1,e2⟩:=k4 p hp
            refine ⟨e1,?_⟩
            rw [lget_lset] at e2
            split at e2
            · rename_i e;rw [← e];exact hex
            · exact e2
        · rw [k5 l',lget_lset]
          split
          · rename_i e;subst e;simp [hex]
          · rfl
        · have:=k6 l' cs hcs
          rw [lget_lset] at this
          split at this
          · simp at this
          · exact this
        · have hw:=Weak.frz (E:=E) (K:=top) (al:=alw) (L:=Lw) (h2 _ _ c1) (off:=off * e.sz) (sz:=e.sz) (n:=l.length) (co:=co) (h1 _ _ (by rw [lget_dal,ht];rfl)) c4 c2 (by
            rw [← c4]
            unfold pureAt at hp
            split at hp
            · rename_i c hcc
              rw [lget_dlb,hcc] at c1
              exact part_pure (dcPure_ok hp (by simpa using c1)) _ _
            · simp at hp) hc.le
          obtain ⟨σ1,r1,g1⟩:=hw A w σ a r
          obtain ⟨alw',σ2,r2,s1,s2,g2⟩:=k7 A w σ1 _ _ a r1 (fun u y hy=>by
            rw [lget_dal] at hy
            simp only [lget] at hy ⊢
            split
            · rename_i e;rw [if_pos e] at hy;simp at hy;rw [← hy];rfl
            · rename_i e;rw [if_neg e] at hy;exact h1 u y (by rw [lget_dal];exact hy)) (fun u y hy=>by
            rw [lget_dlb,lget_lset] at hy
            rw [lget_lset]
            split
            · rename_i e;rw [if_pos e] at hy;simpa [DC.pv] using hy
            · rename_i e;rw [if_neg e] at hy;exact h2 u y (by rw [lget_dlb];exact hy))
          exact ⟨alw',σ2,r2,s1,s2,g1.trans g2⟩
      · simp at h
    · exact dFzO_ok h ha hl
    · simp at h
def dOpF (E:Env) (G:GTab) (C:CT E) (oh:OH) (o:Oper) (al:DAl) (L:DLb) (nl:Nat) (k:DV → DLb → DL → Option R):Option R:=match oh.fz with
  | []=>dOpX E G C oh o al L nl k
  | fz=>dFzO fz al L [] fun al' L' w0=>dOpX E G C oh o al' L' nl fun x wl dl=>k x (w0 ++ wl) (w0.map (fun p=>(p.1,none)) ++ dl)
theorem dOpF_ok {G:GTab} (hG:E.G = gtPV G) (hE:GOK E) {C:CT E} {oh:OH} {o:Oper} {nl:Nat} {ra:DAl} {rl:DLb} {k:DV → DLb → DL → Option R} (hal:alOk ra) (hrl:lbOk rl) (hn:lget rl nl = none) (h:dOpF E G C oh o ra rl nl k = some r):OpS E o ra rl k r:=by
  unfold dOpF at h
  split at h
  · exact dOpX_ok hG hE hal hrl hn h
  · obtain ⟨al',L',w0,k1,k2,k3,k4,k5,k6,k7⟩:=dFzO_ok (E:=E) h hal hrl
    have hn':lget L' nl = none:=by
      cases hc:lget L' nl with
      | none=>rfl
      | some c=>exact absurd hn ((k5 nl).1 (by rw [hc];simp))
    obtain ⟨x,wl,dl,hA,hx,hwl,hd,hk⟩:=dOpX_ok hG hE k2 k3 hn' k1
    refine ⟨x,w0 ++ wl,w0.map (fun p=>(p.1,none)) ++ dl,?_,hx,fun p hp=>?_,fun p hp=>?_,by simpa using hk⟩
    · intro A w σ alw Lw a r h1 h2 h3
      obtain ⟨alw',σ1,r1,s1,s2,g1⟩:=k7 A w σ alw Lw a r h1 h2
      have e1:dlb (w0 ++ wl) = dlb w0 ++ dlb wl:=List.map_append
      refine Oper_wp_mono (hA A w σ1 alw' _ a r1 s1 s2 fun p hp=>?_) ?_ fun _ _ _ h=>h
      · rcases h3 p (by rw [e1];exact List.mem_append_right _ hp) with h4 | h4
        · left
          rw [lget_dlb] at h4 ⊢
          have:lget rl p.1 ≠ none:=fun e=>by rw [e] at h4;simp at h4
          have:=(k5 p.1).2 this
          cases hc:lget L' p.1 with
          | none=>exact absurd hc this
          | some c=>simp
        · right
          rcases lget_lupdG (dlb w0) Lw p.1 with ⟨q,hq,e2,_⟩ | ⟨_,e2⟩
          · exfalso
            obtain ⟨q',hq',rfl⟩:=List.mem_map.1 hq
            have e3:=(k4 q' hq').2
            cases hc:lget rl q'.1 with
            | none=>exact e3 hc
            | some c=>
              have:=h2 q'.1 c.pv (by rw [lget_dlb,hc];rfl)
              simp only at e2
              rw [e2,h4] at this;simp at this
          · rw [e2];exact h4
      · rintro a' w' ⟨σ',c,f1,f2,f3,f4⟩
        have e2:lupd Lw (dlb (w0 ++ wl)) = lupd (lupd Lw (dlb w0)) (dlb wl):=by rw [e1];unfold lupd;rw [List.foldl_append]
        rw [← e2] at f2 f3 f4
        exact ⟨σ',c,f1,f2,f3,g1.trans f4⟩
    · rcases List.mem_append.1 hp with hp | hp
      · rw [(k4 p hp).1];trivial
      · exact hwl p hp
    · rcases List.mem_append.1 hp with hp | hp
      · left;exact List.mem_append_left _ (List.mem_map.2 ⟨p,hp,rfl⟩)
      · rcases hd p hp with h1 | ⟨cs,cs',e1,e2,e3,e4⟩
        · exact .inl (List.mem_append_right _ h1)
        · exact .inr ⟨cs,cs',k6 _ _ e1,e2,e3,fun i hi=>e4 i fun hm=>hi (List.mem_append_right _ hm)⟩
def dwants (ops:Array Oper) (al:DAl) (o:Oper):Option Bool:=
  match o.guard with
  | none=>some true
  | some (j,want)=>match (ops[j]?).bind (·.dst) with
    | some d=>match lget al d with
      | some (.bool b)=>some (b == want)
      | some .dead=>some false
      | _=>none
    | none=>none
theorem dwants_ok {al:DAl} {o:Oper} {b:Bool} (h:dwants ops al o = some b):wants ops (dal al) o = some b:=by
  unfold dwants at h
  unfold wants
  split at h
  · rename_i hg;rw [hg];exact h
  · rename_i j want hg
    rw [hg]
    simp only
    split at h
    · rename_i d hd
      simp only [hd,lget_dal]
      split at h
      · rename_i c hc;rw [hc];exact h
      · rename_i hc;rw [hc];exact h
      · simp at h
    · simp at h
def splitK (sp:Bool) (x:DV) (k:DV → Option R):Option R:=match sp with
  | true=>match x with
    | .bool b=>cond b (k (.bool true)) (k (.bool false))
    | x=>k x
  | false=>k x
theorem splitK_ok {sp:Bool} {x:DV} {k:DV → Option R} (h:splitK sp x k = some r):k x = some r:=by
  unfold splitK at h
  split at h
  · split at h
    · rename_i b;cases b <;> exact h
    · exact h
  · exact h
theorem run_nil_slice {P:Program} {w:World} {T e:TypeId} (hu:P.underlying T = some (.slice e)) (D:Nat) (p:Option Addr) (n c:Nat):(Op.equalIn (D + 1) T (.slice p n c) (.slice none 0 0)).run P w = .ok p.isNone w:=by
  cases p <;> simp [Op.equalIn,run_underlying hu]
theorem AWl_nilq {al:Al} {L:Lb} {d:Option Tmp} {T yt e ty:TypeId} {pos:String} {after:Array Edge} {g:Option (Nat × Bool)} {x y:Operand} {cells:List PV} {m:Nat} {co:Option Nat} (hu:E.P.underlying T = some (.slice e)) (hx:xev E.G al x = some (.ro cells m co)) (hy:xev E.G al y = some .nils)
    (hd:∀ t,d = some t → t < n) (hg:wants ops al ⟨d,.binOp .eql T x y yt,ty,pos,after,g⟩ = some true) (k:∀ b:Bool,(b = true → m = 0) → AWl E K n ops rest Q (oset d (.bool b) al) L) :
    AWl E K n ops (⟨d,.binOp .eql T x y yt,ty,pos,after,g⟩ :: rest) Q al L:=by
  intro A w σ a r t
  have hvx:=xev_ok r (fun _ _ h=>h) hx
  have hvy:=xev_ok r (fun _ _ h=>h) hy
  obtain ⟨b,hb,hrun⟩:∃ b:Bool,(b = true → m = 0) ∧ (execOp a.eval ⟨d,.binOp .eql T x y yt,ty,pos,after,g⟩).run E.P w = .ok (.value (.bool b)) w:=by
    generalize hv:a.eval x = v at *
    generalize hv':a.eval y = v' at *
    cases hvy
    cases hvx with
    | roE p cap hc=>
      refine ⟨p.isNone,fun _=>rfl,?_⟩
      have he:(Op.equal T (.slice p 0 cap) (.slice none 0 0)).run E.P w = .ok p.isNone w:=run_nil_slice hu 9999 p 0 cap
      have h1:=run_eq_of (P:=E.P) (w:=w) (op:=.eql) (.inl rfl) (T:=T) (u:=.slice p 0 cap) (v:=.slice none 0 0) rfl he
      have h2:=run_guard_free (P:=E.P) (w:=w) (op:=.eql) (T:=T) (x:=x) (y:=y) (u:=.slice p 0 cap) (v:=.slice none 0 0) rfl
      simp at h1
      simp [execOp,hv,hv',h1,h2]
    | @ro _ _ _ β add cap cs him hl hv2 hn hc=>
      refine ⟨false,fun h=>by simp at h,?_⟩
      have he:(Op.equal T (.slice (some ⟨β,add,none⟩) m cap) (.slice none 0 0)).run E.P w = .ok false w:=run_nil_slice hu 9999 _ m cap
      have h1:=run_eq_of (P:=E.P) (w:=w) (op:=.eql) (.inl rfl) (T:=T) (u:=.slice (some ⟨β,add,none⟩) m cap) (v:=.slice none 0 0) rfl he
      have h2:=run_guard_free (P:=E.P) (w:=w) (op:=.eql) (T:=T) (x:=x) (y:=y) (u:=.slice (some ⟨β,add,none⟩) m cap) (v:=.slice none 0 0) rfl
      simp at h1
      simp [execOp,hv,hv',h1,h2]
  have hop:Oper.wp E.P ⟨d,.binOp .eql T x y yt,ty,pos,after,g⟩ a w (OpPost A w σ L a d (.bool b) []) (fun _ _ _=>False):=by
    unfold Oper.wp
    rw [hrun]
    exact ⟨σ,.bool b,rfl,.bool b,r.blocks,Grow.refl _ _ _ _⟩
  simp only [wpListIn]
  rw [if_pos (wants_ok r hg)]
  refine Oper_wpIn_mono (Oper_wpIn (not_defer hop ?_) hop) ?_ fun _ _ _ h=>h.elim
  · rintro a' w' ⟨σ',c,rfl,_⟩;exact put_defers _ _ _
  rintro a' w' ⟨σ',c,rfl,hv,hb',hgr⟩
  have r':=(r.grow hb' hgr).put (d:=d) (fun u hu=>by rw [t];exact hd u hu) hv
  refine wpListIn_mono ?_ _ _ _ (k b hb A w' σ' _ r' (by rw [size_put];exact t))
  exact fun e a w h=>Post.trans (hgr.weaken fun _ _=>trivial) h
/-- Both ways lead to the same. -/
noncomputable def agree (a b:Option R):Option R:=open Classical in if a = b then a else none
@[simp] theorem agree_self (a:Option R):agree a a = a:=by simp [agree]
theorem agree_ok {a b:Option R} (h:agree a b = some r):a = some r ∧ b = some r:=by
  unfold agree at h
  split at h
  · rename_i e;exact ⟨h,e ▸ h⟩
  · simp at h
def dNilq (P:Program) (G:GTab) (al:DAl) (o:Oper):Option Bool:=match o.op with
  | .binOp .eql T x y _=>match P.underlying T with
    | some (.slice _)=>match dev G al x with
      | some (.sl _ l)=>match dev G al y with
        | some .nils=>some l.isEmpty
        | _=>none
      | _=>none
    | _=>none
  | _=>none
abbrev OHs:=List (Nat × OH)
def ohOf (hs:OHs) (i:Nat):OH:=match lget hs i with
  | some h=>h
  | none=>{}
noncomputable def dOps (E:Env) (G:GTab) (C:CT E) (n:Nat) (kf:Bool) (hs:OHs) (ops:Array Oper) {R:Type}:List Oper → Nat → St → (St → Option R) → Option R
  | [],_,s,k=>k s
  | o :: rest,i,s,k=>match dwants ops s.al o with
    | some true=>match (ohOf hs i).nq with
     | true=>match dNilq E.P G s.al o with
      | some e=>if dstOK n o.dst = true then cond e (agree (dOps E G C n kf hs ops rest (i + 1) (s.set o.dst (.bool true)) k) (dOps E G C n kf hs ops rest (i + 1) (s.set o.dst (.bool false)) k)) (dOps E G C n kf hs ops rest (i + 1) (s.set o.dst (.bool false)) k) else none
      | none=>none
     | false=>match (ohOf hs i).yi with
      | some j=>match C.y j with
       | some con=>if dstOK n o.dst = true then dYld G con o s.al s.L (frOf s.L) fun wl dl=>dOps E G C n kf hs ops rest (i + 1) ((s.wr wl dl).set o.dst (.bool true)) k else none
       | none=>none
      | none=>match (ohOf hs i).wk with
      | false=>dFz (ohOf hs i).fz s fun s=>match dwants ops s.al o with
       | some true=>if dstOK n o.dst = true then dOpX E G C (ohOf hs i) o s.al s.L (frOf s.L) fun x wl dl=>splitK (ohOf hs i).split x fun x=>dOps E G C n kf hs ops rest (i + 1) ((s.wr wl dl).set o.dst x) k else none
       | _=>none
      | true=>match dwants ops s.dropF.al o with
       | some true=>match (ohOf hs i).io with
        | some j=>if dstOK n o.dst = true ∧ kf = true then dCallO true G (C.i j) o s.dropF.al s.dropF.L (frOf s.dropF.L) fun x wl dl=>dOps E G C n kf hs ops rest (i + 1) ((s.dropF.wr wl dl).set o.dst x) k else none
        | none=>none
       | _=>none
    | some false=>if dstOK n o.dst = true then dOps E G C n kf hs ops rest (i + 1) (s.set o.dst .dead) k else none
    | none=>none
theorem dOps_ok {G:GTab} {C:CT E} {hs:OHs} {kf:Bool} (hkf:kf = true → ¬ K fkeep) (hG:E.G = gtPV G) (hE:GOK E):∀ {rest:List Oper} {i:Nat} {s:St} {k:St → Option R},dOps E G C n kf hs ops rest i s k = some r → s.ok →
    (∀ s',Up s s' → s'.ok → k s' = some r → Q .normal (dal s'.al) (dlb s'.L)) → AWl E K n ops rest Q (dal s.al) (dlb s.L)
  | [],i,s,k,h,ho,hq=>AWl_nil (hq s (.refl s) ho h)
  | o :: rest,i,s,k,h,ho,hq=>by
    simp only [dOps] at h
    split at h
    · rename_i hw
      split at h
      · split at h
        rotate_left
        · simp at h
        rename_i e he
        split at h
        rotate_left
        · simp at h
        rename_i hdst
        have go:∀ b,dOps E G C n kf hs ops rest (i + 1) (s.set o.dst (.bool b)) k = some r → AWl E K n ops rest Q (oset o.dst (.bool b) (dal s.al)) (dlb s.L):=by
          intro b hb
          have ih:=dOps_ok hkf hG hE hb (set_ok ho (d:=o.dst) (x:=.bool b) trivial) fun s' u' o' k'=>hq s' ((set_up _ _ _).trans u') o' k'
          rw [dal_set,dlb_set] at ih
          exact ih
        obtain ⟨dst,op,ty,pos,after,g⟩:=o
        unfold dNilq at he
        simp only at he
        split at he
        · rename_i T x y yt
          split at he
          · rename_i eT hu
            split at he
            · rename_i tt l hx
              split at he
              · rename_i hy
                simp at he;subst he
                have hx':=(dev_ok ho.1 hx).1
                have hy':=(dev_ok ho.1 hy).1
                rw [← hG] at hx' hy'
                refine AWl_nilq hu hx' hy' (dstOK_ok hdst) (dwants_ok hw) fun b hb=>?_
                cases hl:l.isEmpty with
                | true=>
                  rw [hl] at h
                  obtain ⟨h1,h2⟩:=agree_ok h
                  cases b with
                  | true=>exact go true h1
                  | false=>exact go false h2
                | false=>
                  rw [hl] at h
                  cases b with
                  | true=>
                    have:l.length = 0:=hb rfl
                    have:l = []:=List.eq_nil_of_length_eq_zero this
                    subst this;simp at hl
                  | false=>exact go false h
              · simp at he
            · simp at he
          · simp at he
        · simp at he
      split at h
      · -- a round of a range over a function
        split at h
        rotate_left
        · simp at h
        rename_i con _
        split at h
        rotate_left
        · simp at h
        rename_i hdst
        obtain ⟨wl,dl,hwl,hd,h,hA⟩:=dYld_ok (K:=K) (n:=n) (Q:=Q) (ops:=ops) (rest:=rest) hG hE ho h (dstOK_ok hdst) (dwants_ok hw)
        have u2:Up s ((s.wr wl dl).set o.dst (.bool true)):=(wr_up hd).trans (set_up _ _ _)
        have o2:((s.wr wl dl).set o.dst (.bool true)).ok:=set_ok (wr_ok ho hwl) (x:=.bool true) trivial
        have ih:=dOps_ok hkf hG hE h o2 fun s' u' o' k'=>hq s' (u2.trans u') o' k'
        rw [dal_set,dlb_set] at ih
        refine hA ?_
        rw [lupd_dlb];exact ih
      split at h
      rotate_left
      · -- families' blocks may be written
        split at h
        rotate_left
        · simp at h
        rename_i hw1
        have hw1:=dwants_ok hw1
        split at h
        rotate_left
        · simp at h
        split at h
        rotate_left
        · simp at h
        rename_i hc
        obtain ⟨hdst,hkf'⟩:=hc
        have hKf:=hkf hkf'
        have o1:s.dropF.ok:=dropF_ok ho
        obtain ⟨x,wl,dl,hA,hx,hwl,hd,h⟩:=dCallO_ok (wk:=true) hG hE o1.1 o1.2 h
        have u2:Up s.dropF ((s.dropF.wr wl dl).set o.dst x):=(wr_up hd).trans (set_up _ _ _)
        have o2:((s.dropF.wr wl dl).set o.dst x).ok:=set_ok (wr_ok o1 hwl) hx
        have ih:=dOps_ok hkf hG hE h o2 fun s' u' o' k'=>hq s' ((dropF_up s).trans (u2.trans u')) o' k'
        rw [dal_set,dlb_set] at ih
        refine AWl_weak (dropF_weak s) (AWl_opW hA hE (dropF_noF s) hKf (fun l cells h1 h2=>by rw [h1] at h2;simp at h2) (dstOK_ok hdst) (fun _ _ h=>h) (fun _ _ h=>h) (fun p _=>?_) hw1 ?_)
        · cases h:lget (dlb s.dropF.L) p.1 with
          | none=>exact .inr rfl
          | some y=>exact .inl (by simp)
        · rw [lupd_dlb];exact ih
      obtain ⟨s1,u1,o1,h,w1⟩:=dFz_ok (E:=E) (K:=K) h ho
      split at h
      rotate_left
      · simp at h
      rename_i hw1
      have hw1:=dwants_ok hw1
      split at h
      rotate_left
      · simp at h
      rename_i hdst
      obtain ⟨x,wl,dl,hA,hx,hwl,hd,h⟩:=dOpX_ok hG hE o1.1 o1.2 (frOf_ok (Nat.le_refl _)) h
      have h:=splitK_ok h
      have u2:Up s1 ((s1.wr wl dl).set o.dst x):=(wr_up hd).trans (set_up _ _ _)
      have o2:((s1.wr wl dl).set o.dst x).ok:=set_ok (wr_ok o1 hwl) hx
      have ih:=dOps_ok hkf hG hE h o2 fun s' u' o' k'=>hq s' (u1.trans (u2.trans u')) o' k'
      rw [dal_set,dlb_set] at ih
      refine AWl_weak w1 (AWl_op hA (dstOK_ok hdst) (fun _ _ h=>h) (fun _ _ h=>h) (fun p _=>?_) hw1 ?_)
      · cases h:lget (dlb s1.L) p.1 with
        | none=>exact .inr rfl
        | some y=>exact .inl (by simp)
      · rw [lupd_dlb];exact ih
    · rename_i hw
      split at h
      · rename_i hdst
        have ih:=dOps_ok hkf hG hE h (set_ok ho (d:=o.dst) (x:=.dead) trivial) fun s' u' o' k'=>hq s' ((set_up _ _ _).trans u') o' k'
        rw [dal_set,dlb_set] at ih
        exact AWl_skip (dwants_ok hw) (dstOK_ok hdst) ih
      · simp at h
    · simp at h
end
end Go.SH
namespace Go.SH
theorem bitB_ok (m i:Nat):bitB m i = m.testBit i:=by
  unfold bitB
  rw [beq_dec,Nat.testBit_eq_decide_div_mod_eq]
  congr 1
  show ((m >>> i) % 2 = 1) = _
  rw [Nat.shiftRight_eq_div_pow]
theorem maskOf_bit (acc:List Nat):∀ (es:List Nat) (i:Nat),(maskOf acc es).testBit i = true → i ∈ es ∨ ∃ k ∈ es,(acc.getD k 0).testBit i = true
  | [],i,h=>by simp [maskOf] at h
  | k :: r,i,h=>by
    have e:maskOf acc (k :: r) = ((1 <<< k) ||| (acc.getD k 0)) ||| maskOf acc r:=rfl
    rw [e,Nat.testBit_or,Nat.testBit_or,Bool.or_eq_true,Bool.or_eq_true] at h
    rcases h with (h | h) | h
    · left
      rw [Nat.one_shiftLeft,Nat.testBit_two_pow] at h
      simp at h
      subst h;simp
    · exact .inr ⟨k,by simp,h⟩
    · rcases maskOf_bit acc r i h with h | ⟨q,hq,h⟩
      · exact .inl (by simp [h])
      · exact .inr ⟨q,by simp [hq],h⟩
theorem masks_old:∀ (os:List Oper) (acc:List Nat) (j:Nat),j < acc.length → (masks os acc)[j]? = acc[j]?
  | [],acc,j,_=>rfl
  | o :: r,acc,j,h=>by
    rw [masks,masks_old r _ j (by simp;omega),List.getElem?_append_left h]
theorem masks_at:∀ (os:List Oper) (acc:List Nat) (j:Nat) (o:Oper),os[j]? = some o → ∃ acc',acc'.length = acc.length + j ∧ (∀ i,i < acc'.length → acc'[i]? = (masks os acc)[i]?) ∧ (masks os acc)[acc.length + j]? = some (maskOf acc' (edgesOf o))
  | [],acc,j,o,h=>by simp at h
  | o' :: r,acc,0,o,h=>by
    simp at h;subst h
    refine ⟨acc,by simp,fun i hi=>by rw [masks,masks_old r _ i (by simp;omega),List.getElem?_append_left hi],?_⟩
    rw [masks,masks_old r _ _ (by simp),List.getElem?_append_right (by omega)];simp
  | o' :: r,acc,j + 1,o,h=>by
    simp at h
    obtain ⟨acc',h1,h2,h3⟩:=masks_at r (acc ++ [maskOf acc (edgesOf o')]) j o h
    refine ⟨acc',by rw [h1];simp;omega,fun i hi=>by rw [h2 i hi];rfl,?_⟩
    have e:acc.length + (j + 1) = (acc ++ [maskOf acc (edgesOf o')]).length + j:=by simp;omega
    rw [e];exact h3
theorem masks_befs {ops:Array Oper}:∀ (m j i:Nat),j < m → j < ops.size → ((masks ops.toList []).getD j 0).testBit i = true → i ∈ befs ops m j
  | 0,j,i,h,_,_=>by omega
  | m + 1,j,i,h,hj,hb=>by
    have ho:ops.toList[j]? = some ops[j]:=by simp [hj]
    obtain ⟨acc',h1,h2,h3⟩:=masks_at ops.toList [] j _ ho
    simp only [List.length_nil,Nat.zero_add] at h1 h3
    rw [List.getD_eq_getElem?_getD,h3,Option.getD_some] at hb
    unfold befs
    have ho2:ops[j]? = some ops[j]:=by simp [hj]
    rw [ho2]
    simp only [List.mem_append,List.mem_flatMap]
    rcases maskOf_bit acc' _ i hb with h' | ⟨k,hk,hb'⟩
    · exact .inl h'
    · right
      have hkl:k < acc'.length:=by
        rcases Nat.lt_or_ge k acc'.length with h | h
        · exact h
        · rw [List.getD_eq_getElem?_getD,List.getElem?_eq_none h] at hb';simp at hb'
      refine ⟨k,hk,masks_befs m k i (by omega) (by omega) ?_⟩
      rw [List.getD_eq_getElem?_getD,← h2 k hkl,← List.getD_eq_getElem?_getD];exact hb'
theorem hasN_ok {l:List Nat} {x:Nat}:hasN l x = true ↔ x ∈ l:=by
  unfold hasN
  rw [List.any_eq_true]
  constructor
  · rintro ⟨y,hy,h⟩;rw [Nat.beq_eq] at h;subst h;exact hy
  · intro h;exact ⟨x,h,by rw [Nat.beq_eq]⟩
theorem meetN_no {a b:List Nat} (h:meetN a b = false) {x:Nat} (ha:x ∈ a) (hb:x ∈ b):False:=by
  have:meetN a b = true:=by unfold meetN;rw [List.any_eq_true];exact ⟨x,ha,hasN_ok.2 hb⟩
  rw [h] at this;simp at this
theorem pairsS_ok (mk:List Nat) (j:Nat) (rj wj:List Nat):∀ (xs:List (List Nat × List Nat)) (s i:Nat) (ri wi:List Nat),pairsS mk j rj wj xs s = true → xs[i]? = some (ri,wi) →
    bitB (mk.getD j 0) (s + i) = true ∨ (meetN wi (rj ++ wj) = false ∧ meetN wj ri = false)
  | [],s,i,ri,wi,_,h=>by simp at h
  | (ri',wi') :: r,s,0,ri,wi,hp,h=>by
    simp at h;obtain ⟨rfl,rfl⟩:=h
    simp only [pairsS,Bool.and_eq_true,Bool.or_eq_true,Bool.not_eq_true',Bool.or_eq_false_iff] at hp
    exact hp.1
  | (ri',wi') :: r,s,i + 1,ri,wi,hp,h=>by
    simp only [pairsS,Bool.and_eq_true] at hp
    have:=pairsS_ok mk j rj wj r (s + 1) i ri wi hp.2 (by simpa using h)
    rwa [show s + 1 + i = s + (i + 1) by omega] at this
theorem allS_ok (mk:List Nat):∀ (xs pre:List (List Nat × List Nat)) (s i j:Nat) (ri wi rj wj:List Nat),allS mk pre xs s = true → pre.length = s → i < s + j → (pre ++ xs)[i]? = some (ri,wi) → xs[j]? = some (rj,wj) →
    bitB (mk.getD (s + j) 0) i = true ∨ (meetN wi (rj ++ wj) = false ∧ meetN wj ri = false)
  | [],pre,s,i,j,ri,wi,rj,wj,_,_,_,_,h=>by simp at h
  | (rj',wj') :: r,pre,s,i,0,ri,wi,rj,wj,ha,hl,hi,h1,h2=>by
    simp at h2;obtain ⟨rfl,rfl⟩:=h2
    simp only [allS,Bool.and_eq_true] at ha
    rw [List.getElem?_append_left (by omega)] at h1
    have:=pairsS_ok mk s rj' wj' pre 0 i ri wi ha.1 h1
    simpa using this
  | (rj',wj') :: r,pre,s,i,j + 1,ri,wi,rj,wj,ha,hl,hi,h1,h2=>by
    simp only [allS,Bool.and_eq_true] at ha
    have:=allS_ok mk r (pre ++ [(rj',wj')]) (s + 1) i j ri wi rj wj ha.2 (by simp;omega) (by omega) (by rw [List.append_assoc];exact h1) (by simpa using h2)
    rwa [show s + 1 + j = s + (j + 1) by omega] at this
end Go.SH
namespace Go.SH
theorem clash_mem {a b:List Lc} (h:clash a b = true):∃ l,l ∈ a ∧ l ∈ b:=by
  simp only [clash,List.any_eq_true] at h
  obtain ⟨x,hx,y,hy,he⟩:=h
  simp at he;subst he
  exact ⟨x,hx,hy⟩
theorem memW {o:Oper} {f:Fp} {x:Lc} (h:x ∈ (fpW o f).map (·.1)):(∃ d,x = .inl d ∧ d ∈ wrS o) ∨ ∃ l,x = .inr l ∧ l ∈ wrL f:=by
  unfold fpW at h
  rw [List.map_append,List.mem_append] at h
  rcases h with h | h
  · left
    unfold wrS
    cases hd:o.dst with
    | none=>rw [hd] at h;simp at h
    | some d=>rw [hd] at h;simp at h;exact ⟨d,h,by simp⟩
  · right
    unfold wrL
    cases hr:f.run with
    | false=>rw [hr] at h;simp at h
    | true=>
      rw [hr] at h
      simp only [if_true,List.map_map,List.mem_map,Function.comp] at h
      obtain ⟨p,hp,rfl⟩:=h
      exact ⟨p.1,rfl,by simp only [if_true];exact List.mem_map_of_mem hp⟩
theorem memR {ops:Array Oper} {o:Oper} {f:Fp} {x:Lc} (hra:∀ p ∈ f.ra,p.1 ∈ slotsOf (opnds o.op)) (h:x ∈ (fpR ops o f).map (·.1)):(∃ d,x = .inl d ∧ d ∈ rdS ops o) ∨ ∃ l,x = .inr l ∧ l ∈ rdL f:=by
  unfold fpR at h
  rw [List.map_append,List.mem_append] at h
  rcases h with h | h
  · left
    unfold rdS
    cases hd:gslot ops o with
    | none=>rw [hd] at h;simp at h
    | some d=>rw [hd] at h;simp at h;exact ⟨d,h,by simp⟩
  · cases hr:f.run with
    | false=>rw [hr] at h;simp at h
    | true=>
      rw [hr] at h
      simp only [if_true,List.map_append,List.map_map,List.mem_append,List.mem_map,Function.comp] at h
      rcases h with (⟨p,hp,rfl⟩ | ⟨p,hp,rfl⟩) | ⟨l,hl,rfl⟩
      · exact .inl ⟨p.1,rfl,by unfold rdS;exact List.mem_append.2 (.inr (hra p hp))⟩
      · exact .inr ⟨p.1,rfl,by unfold rdL;rw [if_pos hr];exact List.mem_append.2 (.inl (List.mem_map_of_mem hp))⟩
      · exact .inr ⟨l,rfl,by unfold rdL;rw [if_pos hr];exact List.mem_append.2 (.inr hl)⟩
theorem indep_of {ops:Array Oper} {fs:List Fp} (hlen:fs.length = ops.size) (hS:indepS ops = true) (hD:pureL fs = true ∨ indepD ops fs = true)
    (hra:∀ (i:Nat) (o:Oper) (f:Fp),ops[i]? = some o → fs[i]? = some f → ∀ p ∈ f.ra,p.1 ∈ slotsOf (opnds o.op)):indep ops fs = true:=by
  unfold indep
  simp only [List.all_eq_true,List.mem_range]
  intro j hj i hi
  have hin:i < ops.size:=by omega
  have h1:ops[i]? = some ops[i]:=by simp [hin]
  have h2:fs[i]? = some fs[i]:=by simp [hlen,hin]
  have h3:ops[j]? = some ops[j]:=by simp [hj]
  have h4:fs[j]? = some fs[j]:=by simp [hlen,hj]
  have ri:=hra i _ _ h1 h2
  have rj:=hra j _ _ h3 h4
  have s1:(ops.toList.map fun o=>(rdS ops o,wrS o))[i]? = some (rdS ops ops[i],wrS ops[i]):=by simp [hin]
  have s2:(ops.toList.map fun o=>(rdS ops o,wrS o))[j]? = some (rdS ops ops[j],wrS ops[j]):=by simp [hj]
  have st:=allS_ok _ _ [] 0 i j _ _ _ _ hS rfl (by omega) (by rw [List.nil_append];exact s1) s2
  rw [Nat.zero_add] at st
  have dy:bitB ((masks ops.toList []).getD j 0) i = true ∨ (meetN (wrL fs[i]) (rdL fs[j] ++ wrL fs[j]) = false ∧ meetN (wrL fs[j]) (rdL fs[i]) = false):=by
    rcases hD with hD | hD
    · right
      have nil:∀ f ∈ fs,wrL f = []:=by
        intro f hf
        have:=List.all_eq_true.1 hD f hf
        unfold wrL
        split
        · split at this
          · rename_i hw;rw [hw];rfl
          · simp at this
        · rfl
      rw [nil _ (List.getElem_mem _),nil _ (List.getElem_mem _)]
      exact ⟨rfl,rfl⟩
    · have d1:(fs.map fun f=>(rdL f,wrL f))[i]? = some (rdL fs[i],wrL fs[i]):=by simp [hlen,hin]
      have d2:(fs.map fun f=>(rdL f,wrL f))[j]? = some (rdL fs[j],wrL fs[j]):=by simp [hlen,hj]
      have:=allS_ok _ _ [] 0 i j _ _ _ _ hD rfl (by omega) (by rw [List.nil_append];exact d1) d2
      rwa [Nat.zero_add] at this
  simp only [List.getD_eq_getElem?_getD,List.getElem?_map,List.getElem?_range hin,List.getElem?_range hj,Option.map_some,Option.getD_some,h1,h2,h3,h4]
  generalize ops[i] = oi at *
  generalize ops[j] = oj at *
  generalize fs[i] = fi at *
  generalize fs[j] = fj at *
  by_cases hb:bitB ((masks ops.toList []).getD j 0) i = true
  · have:=masks_befs ops.size j i hj hj (by rw [← bitB_ok];exact hb)
    simp [List.contains_iff_mem,this]
  · obtain ⟨s3,s4⟩:=st.resolve_left hb
    obtain ⟨d3,d4⟩:=dy.resolve_left hb
    rw [Bool.or_eq_true]
    right
    rw [Bool.not_eq_true',Bool.or_eq_false_iff]
    constructor
    · cases hc:clash ((fpW oi fi).map (·.1)) ((fpR ops oj fj).map (·.1) ++ (fpW oj fj).map (·.1)) with
      | false=>rfl
      | true=>
        exfalso
        obtain ⟨x,hx,hy⟩:=clash_mem hc
        rcases memW hx with ⟨d,rfl,hd⟩ | ⟨l,rfl,hl⟩
        · rcases List.mem_append.1 hy with hy | hy
          · rcases memR rj hy with ⟨d',e,hd'⟩ | ⟨l,e,_⟩
            · simp at e;subst e;exact meetN_no s3 hd (List.mem_append.2 (.inl hd'))
            · simp at e
          · rcases memW hy with ⟨d',e,hd'⟩ | ⟨l,e,_⟩
            · simp at e;subst e;exact meetN_no s3 hd (List.mem_append.2 (.inr hd'))
            · simp at e
        · rcases List.mem_append.1 hy with hy | hy
          · rcases memR rj hy with ⟨d',e,hd'⟩ | ⟨l',e,hl'⟩
            · simp at e
            · simp at e;subst e;exact meetN_no d3 hl (List.mem_append.2 (.inl hl'))
          · rcases memW hy with ⟨d',e,hd'⟩ | ⟨l',e,hl'⟩
            · simp at e
            · simp at e;subst e;exact meetN_no d3 hl (List.mem_append.2 (.inr hl'))
    · cases hc:clash ((fpW oj fj).map (·.1)) ((fpR ops oi fi).map (·.1)) with
      | false=>rfl
      | true=>
        exfalso
        obtain ⟨x,hx,hy⟩:=clash_mem hc
        rcases memW hx with ⟨d,rfl,hd⟩ | ⟨l,rfl,hl⟩
        · rcases memR ri hy with ⟨d',e,hd'⟩ | ⟨l,e,_⟩
          · simp at e;subst e;exact meetN_no s4 hd hd'
          · simp at e
        · rcases memR ri hy with ⟨d',e,hd'⟩ | ⟨l',e,hl'⟩
          · simp at e
          · simp at e;subst e;exact meetN_no d4 hl hl'
theorem textAl_app:∀ (os:List Oper) (fs:List Fp) (o:Oper) (f:Fp) (al:Al),os.length = fs.length → textAl (os ++ [o]) (fs ++ [f]) al = stepAl o f (textAl os fs al)
  | [],[],o,f,al,_=>rfl
  | [],_ :: _,o,f,al,h=>by simp at h
  | _ :: _,[],o,f,al,h=>by simp at h
  | o' :: os,f' :: fs,o,f,al,h=>textAl_app os fs o f _ (by simpa using h)
theorem textL_app:∀ (os:List Oper) (fs:List Fp) (o:Oper) (f:Fp) (L:Lb),os.length = fs.length → textL (os ++ [o]) (fs ++ [f]) L = stepL f (textL os fs L)
  | [],[],o,f,L,_=>rfl
  | [],_ :: _,o,f,L,h=>by simp at h
  | _ :: _,[],o,f,L,h=>by simp at h
  | o' :: os,f' :: fs,o,f,L,h=>textL_app os fs o f _ (by simpa using h)
theorem textVals_app (ops:Array Oper):∀ (os:List Oper) (fs:List Fp) (o:Oper) (f:Fp) (al:Al) (L:Lb),os.length = fs.length →
    textVals ops (os ++ [o]) (fs ++ [f]) al L = textVals ops os fs al L ++ [(fpR ops o f).map fun p=>memOf (textAl os fs al) (textL os fs L) p.1]
  | [],[],o,f,al,L,_=>rfl
  | [],_ :: _,o,f,al,L,h=>by simp at h
  | _ :: _,[],o,f,al,L,h=>by simp at h
  | o' :: os,f' :: fs,o,f,al,L,h=>by
    simp only [List.cons_append,textVals,textAl,textL]
    rw [textVals_app ops os fs o f _ _ (by simpa using h)]
theorem textWant_app (ops:Array Oper):∀ (os:List Oper) (fs:List Fp) (o:Oper) (f:Fp),os.length = fs.length → textWant ops (os ++ [o]) (fs ++ [f]) = textWant ops os fs ++ [(fpR ops o f).map (·.2)]
  | [],[],o,f,_=>rfl
  | [],_ :: _,o,f,h=>by simp at h
  | _ :: _,[],o,f,h=>by simp at h
  | o' :: os,f' :: fs,o,f,h=>by
    simp only [List.cons_append,textWant]
    rw [textWant_app ops os fs o f (by simpa using h)]
/-- So far as_ a statement of open order is run, in the text's order. -/
structure DInv (E:Env) (ops:Array Oper) (pre:List Oper) (fs:List Fp) (al0:Al) (L0:Lb) (al:Al) (L:Lb):Prop where
  len:pre.length = fs.length
  hal:al = textAl pre fs al0
  hL:L = textL pre fs L0
  tv:textVals ops pre fs al0 L0 = textWant ops pre fs
  op:∀ (i:Nat) (o:Oper) (f:Fp),pre[i]? = some o → fs[i]? = some f → f.run = true → AOp E o f.ra f.rl f.x f.wl
  gd:∀ (i:Nat) (o:Oper) (f:Fp),pre[i]? = some o → fs[i]? = some f → (match o.guard with | some _=>(!f.gd || !f.run) | none=>f.run) = true
  ra:∀ (i:Nat) (o:Oper) (f:Fp),pre[i]? = some o → fs[i]? = some f → ∀ p ∈ f.ra,p.1 ∈ slotsOf (opnds o.op)
theorem snoc_get {α:Type} {xs:List α} {x y:α} {i:Nat} (h:(xs ++ [x])[i]? = some y):(i < xs.length ∧ xs[i]? = some y) ∨ (i = xs.length ∧ y = x):=by
  rcases Nat.lt_or_ge i xs.length with hi | hi
  · rw [List.getElem?_append_left hi] at h;exact .inl ⟨hi,h⟩
  · rw [List.getElem?_append_right hi] at h
    cases hk:i - xs.length with
    | zero=>rw [hk] at h;simp at h;exact .inr ⟨by omega,h.symm⟩
    | succ k=>rw [hk] at h;simp at h
theorem DInv.snoc {E:Env} {ops:Array Oper} {pre:List Oper} {fs:List Fp} {al0 al:Al} {L0 L:Lb} (h:DInv E ops pre fs al0 L0 al L) {o:Oper} {f:Fp}
    (hr:∀ p ∈ fpR ops o f,memOf al L p.1 = p.2) (hop:f.run = true → AOp E o f.ra f.rl f.x f.wl) (hgd:(match o.guard with | some _=>(!f.gd || !f.run) | none=>f.run) = true) (hra:∀ p ∈ f.ra,p.1 ∈ slotsOf (opnds o.op)) :
    DInv E ops (pre ++ [o]) (fs ++ [f]) al0 L0 (stepAl o f al) (stepL f L):=by
  refine ⟨by simp [h.len],by rw [textAl_app _ _ _ _ _ h.len,h.hal],by rw [textL_app _ _ _ _ _ h.len,h.hL],?_,?_,?_,?_⟩
  · rw [textVals_app _ _ _ _ _ _ _ h.len,textWant_app _ _ _ _ _ h.len,h.tv,← h.hal,← h.hL]
    congr 2
    exact List.map_congr_left hr
  · intro i o' f' h1 h2 h3
    rcases snoc_get h1 with ⟨a,b⟩ | ⟨a,rfl⟩ <;> rcases snoc_get h2 with ⟨c,d⟩ | ⟨c,rfl⟩
    · exact h.op i _ _ b d h3
    · have:=h.len;omega
    · have:=h.len;omega
    · exact hop h3
  · intro i o' f' h1 h2
    rcases snoc_get h1 with ⟨a,b⟩ | ⟨a,rfl⟩ <;> rcases snoc_get h2 with ⟨c,d⟩ | ⟨c,rfl⟩
    · exact h.gd i _ _ b d
    · have:=h.len;omega
    · have:=h.len;omega
    · exact hgd
  · intro i o' f' h1 h2
    rcases snoc_get h1 with ⟨a,b⟩ | ⟨a,rfl⟩ <;> rcases snoc_get h2 with ⟨c,d⟩ | ⟨c,rfl⟩
    · exact h.ra i _ _ b d
    · have:=h.len;omega
    · have:=h.len;omega
    · exact hra
end Go.SH
namespace Go.SH
theorem Weak.subG {E:Env} {K:Nat → Prop} {al al':Al} {L:Lb} (hs:∀ t x,lget al' t = some x → lget al t = some x):Weak E K al L al' L:=fun _ w σ _ r=>
  ⟨σ,⟨fun t x hx=>r.tmps t x (hs t x hx),r.blocks,r.globals,r.nodefer⟩,Grow.refl _ _ _ _⟩
theorem draw_end {E:Env} (hm:E.P.follows .mixedOrders = true) {n id:Nat} {ops:Array Oper} {fs:List Fp} {al0 al:Al} {L0 L:Lb} {K:Nat → Prop} (h:DInv E ops ops.toList fs al0 L0 al L) (he:edgesOK ops = true) (hS:indepS ops = true) (hd:drawS n ops = true)
    (hp:pureL fs = true ∨ (nodupAll fs = true ∧ indepD ops fs = true)):AW E K n (.region id ops true) (fun e1 al1 L1=>e1 = .normal ∧ al1 = al ∧ L1 = L) al0 L0:=by
  have hlen:fs.length = ops.size:=by have:=h.len;simp at this;omega
  have g1:∀ (i:Nat) (o:Oper),ops[i]? = some o → ops.toList[i]? = some o:=fun i o h=>by simpa using h
  have hst:∀ (i:Nat) (o:Oper),ops[i]? = some o → (dstOK n o.dst && (match o.guard with | some _=>(gslot ops o).isSome | none=>true)) = true:=fun i o ho=>
    List.all_eq_true.1 ((Bool.and_eq_true _ _).mp hd).1 o (List.mem_of_getElem? (g1 i o ho))
  refine AW_post (AW_draw (Q:=fun e al1 L1=>e = .normal ∧ (∀ t,lget al1 t = lget al t) ∧ ∀ l,lget L1 l = lget L l) hm fs hlen (fun i o f ho hf hr=>h.op i o f (g1 i o ho) hf hr) (fun i o f ho hf=>⟨?_,?_,?_⟩) he
    (indep_of hlen hS (hp.imp (fun h=>h) (·.2)) fun i o f ho hf=>h.ra i o f (g1 i o ho) hf) h.tv (fun al1 L1 e1 e2=>⟨rfl,fun t=>by rw [e1,← h.hal],fun l=>by rw [e2,← h.hL]⟩) (fun i o ho=>List.all_eq_true.1 ((Bool.and_eq_true _ _).mp hd).2 o (List.mem_of_getElem? (g1 i o ho))) (fun _ _ h=>by simp at h)) ?_
  · have h1:=h.gd i o f (g1 i o ho) hf
    have h2:=hst i o ho
    unfold guardOK
    cases hg:o.guard with
    | none=>rw [hg] at h1;exact h1
    | some q=>rw [hg] at h1 h2;simp only [Bool.and_eq_true] at h2 ⊢;exact ⟨h2.2,h1⟩
  · rcases hp with hp | hp
    · have:=List.all_eq_true.1 hp f (List.mem_of_getElem? hf)
      split at this
      · rename_i hw;rw [hw];rfl
      · simp at this
    · exact List.all_eq_true.1 hp.1 f (List.mem_of_getElem? hf)
  · intro t ht
    have h2:=hst i o ho
    simp only [Bool.and_eq_true] at h2
    exact dstOK_ok h2.1 t ht
  · rintro e al1 L1 ⟨rfl,e1,e2⟩
    exact ⟨al,L,(Weak.subG fun t x hx=>by rw [e1];exact hx).trans (Weak.eqL fun l=>(e2 l).symm),rfl,rfl,rfl⟩
def TrB (m:Tr) (nx:Nat):Prop:=∀ l,tget m l ≠ none → l < nx
structure StOK (m:Tr) (nx lo:Nat) (m':Tr) (nx':Nat):Prop where
  le:nx ≤ nx'
  mx:nx' ≤ maxL
  trb:TrB m' nx'
  low:∀ l,l < lo → tget m' l = tget m l
  dom:∀ l,l < nx → tget m l = none → tget m' l = none
theorem wants_gval {ops:Array Oper} {al:Al} {o:Oper} {run:Bool} (h:wants ops al o = some run):(∀ d,gslot ops o = some d → lget al d = some (gval o run (gdOf ops al o))) ∧ (run = true → gdOf ops al o = false) ∧ (o.guard = none → run = true):=by
  unfold wants at h
  unfold gslot gval gdOf
  cases hg:o.guard with
  | none=>rw [hg] at h;simp at h;simp [h]
  | some q=>
    obtain ⟨j,want⟩:=q
    rw [hg] at h
    simp only at h ⊢
    have hh:(ops[j]?).bind (·.dst) = none ∨ ∃ d,(ops[j]?).bind (·.dst) = some d:=by cases (ops[j]?).bind (·.dst) <;> simp
    rcases hh with hd | ⟨d,hd⟩
    · simp [hd] at h
    · have hx':lget al d = none ∨ ∃ x,lget al d = some x:=by cases lget al d <;> simp
      rcases hx' with hx | ⟨x,hx⟩
      · simp [hd,hx] at h
      · simp only [hd,hx] at h ⊢
        cases x <;> simp at h
        · subst h
          refine ⟨fun d' hd'=>?_,by simp,by simp⟩
          simp at hd';subst hd'
          rw [hx];simp
        · rename_i b
          subst h
          refine ⟨fun d' hd'=>?_,by simp,by simp⟩
          simp at hd';subst hd'
          rw [hx];cases b <;> cases want <;> rfl
/-- What is looked at is as_ it is told. -/
theorem fpR_ok {ops:Array Oper} {al:Al} {L:Lb} {o:Oper} {f:Fp} (hw:wants ops al o = some f.run) (hgd:f.gd = gdOf ops al o) (hra:∀ p ∈ f.ra,lget al p.1 = some p.2) (hrl:∀ p ∈ f.rl,lget L p.1 = some p.2)
    (hnew:∀ l ∈ fnew f,lget L l = none):∀ p ∈ fpR ops o f,memOf al L p.1 = p.2:=by
  intro p hp
  unfold fpR at hp
  rw [List.mem_append] at hp
  rcases hp with hp | hp
  · cases hd:gslot ops o with
    | none=>rw [hd] at hp;simp at hp
    | some d=>
      rw [hd] at hp
      simp at hp;subst hp
      simp only [memOf]
      rw [(wants_gval hw).1 d hd,hgd]
  · split at hp
    · rw [List.mem_append,List.mem_append] at hp
      rcases hp with (hp | hp) | hp
      · simp only [List.mem_map] at hp
        obtain ⟨q,hq,rfl⟩:=hp
        simp only [memOf];rw [hra q hq]
      · simp only [List.mem_map] at hp
        obtain ⟨q,hq,rfl⟩:=hp
        simp only [memOf];rw [hrl q hq]
      · simp only [List.mem_map] at hp
        obtain ⟨l,hl,rfl⟩:=hp
        simp only [memOf];rw [hnew l hl]
    · simp at hp
end Go.SH
namespace Go.SH
variable [SentA]
mutual
/-- The names in a value. -/
def DV.names:DV → List Nat
  | .ptr l _=>[l]
  | .lp l _ _ _=>[l]
  | .rw l _ _ _ _ _=>[l]
  | .fn _ cs=>DV.namesL cs
  | .iface _ v=>v.names
  | .agg cs=>DV.namesL cs
  | .tup cs=>DV.namesL cs
  | _=>[]
def DV.namesL:List DV → List Nat
  | []=>[]
  | d :: r=>d.names ++ DV.namesL r
end
def draOf (al:DAl):List Nat → DAl
  | []=>[]
  | t :: r=>match lget al t with | some x=>(t,x) :: draOf al r | none=>draOf al r
def drlOf (L:DLb):List Nat → DLb
  | []=>[]
  | l :: r=>match lget L l with | some c=>(l,c) :: drlOf L r | none=>drlOf L r
theorem draOf_mem {al:DAl}:∀ {ts:List Nat} {p:Nat × DV},p ∈ draOf al ts → lget al p.1 = some p.2 ∧ p.1 ∈ ts
  | [],p,h=>by simp [draOf] at h
  | t :: r,p,h=>by
    simp only [draOf] at h
    split at h
    · rename_i x hx
      rcases List.mem_cons.1 h with rfl | h
      · exact ⟨hx,by simp⟩
      · obtain ⟨h1,h2⟩:=draOf_mem h;exact ⟨h1,List.mem_cons_of_mem _ h2⟩
    · obtain ⟨h1,h2⟩:=draOf_mem h;exact ⟨h1,List.mem_cons_of_mem _ h2⟩
theorem drlOf_mem {L:DLb}:∀ {ts:List Nat} {p:Nat × DC},p ∈ drlOf L ts → lget L p.1 = some p.2
  | [],p,h=>by simp [drlOf] at h
  | t :: r,p,h=>by
    simp only [drlOf] at h
    split at h
    · rename_i x hx
      rcases List.mem_cons.1 h with rfl | h
      · exact hx
      · exact drlOf_mem h
    · exact drlOf_mem h
/-- Does an operation look at blocks? -/
def looks:Op → Bool
  | .move _=>false
  | .assign _=>false
  | .pick _ _ _=>false
  | .binOp _ _ _ _ _=>false
  | .unOp _ _ _=>false
  | .fieldAddr _ _ _=>false
  | .field _ _ _=>false
  | .extract _ _=>false
  | .makeFunc _ _ _=>false
  | .makeInterface _ _=>false
  | .nilCheck _=>false
  | .build _ _=>false
  | .box _ _=>false
  | .buildSlice _ _ _=>false
  | _=>true
/-- Names, and those that stand in their blocks. -/
def deep (L:DLb) (op:Op) (ns:List Nat):List Nat:=match op with
  | .call ⟨.value _,_,_⟩=>flab :: fkeep :: (ns ++ ns.flatMap fun l=>match lget L l with
    | some (.cs ds)=>DV.namesL ds
    | _=>[])
  | _=>ns
def rlFor (op:Op) (ra:DAl) (L:DLb):DLb:=match looks op with
  | true=>drlOf L (deep L op (ra.flatMap fun p=>p.2.names))
  | false=>[]
theorem rlFor_mem {op:Op} {ra:DAl} {L:DLb} {p:Nat × DC} (h:p ∈ rlFor op ra L):lget L p.1 = some p.2:=by
  unfold rlFor at h
  split at h
  · exact drlOf_mem h
  · simp at h
theorem fnew_memD {f:Fp} {l:Nat} (h:l ∈ fnew f):lget f.rl l = none ∧ ∃ p ∈ f.wl,p.1 = l:=by
  unfold fnew at h
  simp only [List.mem_map,List.mem_filter] at h
  obtain ⟨p,⟨h1,h2⟩,rfl⟩:=h
  exact ⟨by simpa using h2,p,h1,rfl⟩
section
variable {E:Env} {K:Nat → Prop} {n:Nat} {Q:Exit → Al → Lb → Prop} {ops:Array Oper} {rest:List Oper} {R:Type} {r:R}
def dDraw (E:Env) (G:GTab) (C:CT E) (n:Nat) (hs:OHs) (ops:Array Oper) {R:Type}:List Oper → Nat → List Fp → St → (St → Option R) → Option R
  | [],_,fs,s,k=>if (edgesOK ops && (indepS ops && drawS n ops) && (pureL fs || (nodupAll fs && indepD ops fs.reverse))) = true then k s else none
  | o :: rest,i,fs,s,k=>match dwants ops s.al o with
    | some true=>let ra:=draOf s.al (slotsOf (opnds o.op))
      let rl:=rlFor o.op ra s.L
      dOpF E G C (ohOf hs i) o ra rl (frOf s.L) fun x wl dl=>
        if (wl.all fun p=>(rl.map (·.1)).elem p.1 || Nat.ble (frOf s.L) p.1) = true then splitK (ohOf hs i).split x fun x=>
          dDraw E G C n hs ops rest (i + 1) (⟨dal ra,dlb rl,x.pv,dlb wl,true,false⟩ :: fs) ((s.wr wl dl).set o.dst x) k else none
    | some false=>dDraw E G C n hs ops rest (i + 1) (⟨[],[],.dead,[],false,gdOf ops (dal s.al) o⟩ :: fs) (s.set o.dst .dead) k
    | none=>none
theorem dDraw_ok {G:GTab} {C:CT E} {hs:OHs} {id:Nat} (hm:E.P.follows .mixedOrders = true) (hG:E.G = gtPV G) (hE:GOK E) {al0:Al} {L0:Lb} :
    ∀ {rest pre:List Oper} {i:Nat} {fs:List Fp} {s:St} {k:St → Option R},ops.toList = pre ++ rest → DInv E ops pre fs.reverse al0 L0 (dal s.al) (dlb s.L) → dDraw E G C n hs ops rest i fs s k = some r → s.ok →
    (∀ s',Up s s' → s'.ok → k s' = some r → Q .normal (dal s'.al) (dlb s'.L)) → AW E K n (.region id ops true) Q al0 L0
  | [],pre,i,fs,s,k,hpre,hD,h,ho,hq=>by
    simp only [dDraw] at h
    split at h
    · rename_i hc
      simp only [Bool.and_eq_true] at hc
      obtain ⟨⟨h1,h2,h3⟩,h4⟩:=hc
      rw [List.append_nil] at hpre
      subst hpre
      refine (draw_end hm hD h1 h2 h3 ?_).mono fun e1 al1 L1 ⟨a,b,c⟩=>by subst a;subst b;subst c;exact hq s (.refl s) ho h
      simp only [Bool.or_eq_true,Bool.and_eq_true] at h4
      rcases h4 with hp | ⟨hp,hq⟩
      · left;unfold pureL at hp ⊢;rw [List.all_reverse];exact hp
      · right;exact ⟨by unfold nodupAll at hp ⊢;rw [List.all_reverse];exact hp,hq⟩
    · simp at h
  | o :: rest,pre,i,fs,s,k,hpre,hD,h,ho,hq=>by
    simp only [dDraw] at h
    split at h
    · rename_i hw
      have hw:=dwants_ok hw
      have hra:alOk (draOf s.al (slotsOf (opnds o.op))):=fun t x hx=>ho.1 t x (draOf_mem (mem_of_lget hx)).1
      have hrlm:∀ l c,lget (rlFor o.op (draOf s.al (slotsOf (opnds o.op))) s.L) l = some c → lget s.L l = some c:=fun l c hl=>rlFor_mem (mem_of_lget hl)
      have hn:lget (rlFor o.op (draOf s.al (slotsOf (opnds o.op))) s.L) (frOf s.L) = none:=by
        cases hc:lget (rlFor o.op (draOf s.al (slotsOf (opnds o.op))) s.L) (frOf s.L) with
        | none=>rfl
        | some c=>have:=hrlm _ _ hc;rw [frOf_ok (Nat.le_refl _)] at this;simp at this
      obtain ⟨x,wl,dl,hA,hx,hwl,hd,h⟩:=dOpF_ok hG hE hra (fun l c hl=>ho.2 l c (hrlm l c hl)) hn h
      simp only at h
      split at h
      · rename_i hwc
        have h:=splitK_ok h
        have hd':DirtyOK s.L wl dl:=fun p hp=>(hd p hp).imp (fun h=>h) fun ⟨cs,cs',e1,e2⟩=>⟨cs,cs',hrlm _ _ e1,e2⟩
        have u2:Up s ((s.wr wl dl).set o.dst x):=(wr_up hd').trans (set_up _ _ _)
        have o2:((s.wr wl dl).set o.dst x).ok:=set_ok (wr_ok ho hwl) hx
        have hgd:gdOf ops (dal s.al) o = false:=(wants_gval hw).2.1 rfl
        have hD':=hD.snoc (o:=o) (f:=⟨dal (draOf s.al (slotsOf (opnds o.op))),dlb (rlFor o.op (draOf s.al (slotsOf (opnds o.op))) s.L),x.pv,dlb wl,true,false⟩)
          (fpR_ok hw hgd.symm (fun p hp=>by
              obtain ⟨q,hq,rfl⟩:=List.mem_map.1 hp
              rw [lget_dal,(draOf_mem hq).1];rfl)
            (fun p hp=>by
              obtain ⟨q,hq,rfl⟩:=List.mem_map.1 hp
              rw [lget_dlb,rlFor_mem hq];rfl) fun l hl=>by
            obtain ⟨e1,p,hp,rfl⟩:=fnew_memD hl
            obtain ⟨q,hq,rfl⟩:=List.mem_map.1 hp
            have:=List.all_eq_true.1 hwc q hq
            simp only [Bool.or_eq_true] at this
            rcases this with this | this
            · have e2:=hasL_dlb this
              simp only [hasL] at e2
              simp only at e1
              rw [e1] at e2;simp at e2
            · have:=Nat.le_of_ble_eq_true this
              simp only;rw [lget_dlb,frOf_ok this];rfl)
          (fun _=>hA) (by cases hg:o.guard <;> rfl) fun p hp=>by
            obtain ⟨q,hq,rfl⟩:=List.mem_map.1 hp
            exact (draOf_mem hq).2
        refine dDraw_ok hm hG hE (pre:=pre ++ [o]) (by rw [hpre];simp) ?_ h o2 fun s' u' o' k'=>hq s' (u2.trans u') o' k'
        rw [List.reverse_cons,dal_set,dlb_set,show (s.wr wl dl).L = lupd s.L wl from rfl,← lupd_dlb]
        exact hD'
      · simp at h
    · rename_i hw
      have hw:=dwants_ok hw
      have hg:o.guard ≠ none:=fun h=>by have:=(wants_gval hw).2.2 h;simp at this
      have hD':=hD.snoc (o:=o) (f:=⟨[],[],.dead,[],false,gdOf ops (dal s.al) o⟩)
        (fpR_ok hw rfl (fun p hp=>by simp at hp) (fun p hp=>by simp at hp) fun l hl=>by obtain ⟨_,p,hp,_⟩:=fnew_memD hl;simp at hp)
        (fun h=>by simp at h) (by cases hgg:o.guard with | none=>exact absurd hgg hg | some q=>simp) fun p hp=>by simp at hp
      refine dDraw_ok hm hG hE (pre:=pre ++ [o]) (by rw [hpre];simp) ?_ h (set_ok ho (d:=o.dst) (x:=.dead) trivial) fun s' u' o' k'=>hq s' ((set_up _ _ _).trans u') o' k'
      rw [List.reverse_cons,dal_set,dlb_set]
      exact hD'
    · simp at h
end
end Go.SH
namespace Go.SH
variable [SentA]
section
variable {R:Type} {r:R}
def Tm.leafK (tm:Tm) (ks:List Nat) (b s:St) (k:tm.T → Option R):Option R:=
  match getS (frOf s.L) s.al tm.slots ⟨[],[],[]⟩ with
  | some g=>match getL (frOf s.L) s.L tm.labs (namesC (frOf s.L) s.L tm.cups g) with
    | some g=>match getC (frOf s.L) s.L tm.cups g with
      | some g=>
        let s':=tm.appL g.vs b
        if dirtyOK tm b s = true ∧ (ded (tm.slots.map (·.1) ++ tm.kill) b.al).all (fun p=>p.2.labs (idOK g.m s'.L)) = true ∧
            (ded (tm.labs.map (·.1)) b.L).all (fun p=>idOK g.m s'.L p.1 && dcLabs (idOK g.m s'.L) p.2) = true ∧ tm.cups.all (fun c=>idOK g.m s'.L c.1 && !tm.killL.elem c.1 && !(tm.labs.map (·.1)).elem c.1) = true ∧
            (g.m.all fun p=>(s'.L.map (·.1)).elem p.1) = true ∧ ks.all (fun l=>idOK g.m s'.L l) = true ∧
            (s'.L.all fun p=>s'.L.all fun q=>goneB p.2 || goneB q.2 || decide (lk g.m p.1 = lk g.m q.1 → p.1 = q.1)) = true ∧ nodupM g.m = true then
          reqs (lenF (lenT tm.labs (g.vs.drop (nS tm.slots))) b.L) g.q (match pack tm.hs g.vs with
            | some v=>k v
            | none=>none) else none
      | none=>none
    | none=>none
  | none=>none
theorem reqs_of {len:Nat → Nat} {k:Option R}:∀ {q:List (Nat × Nat)},(∀ p ∈ q,p.2 = len p.1) → reqs len q k = k
  | [],_=>rfl
  | (l,n) :: q,h=>by
    simp only [reqs]
    rw [req_pos (h (l,n) (by simp)),reqs_of fun p hp=>h p (List.mem_cons_of_mem _ hp)]
theorem leafK_ok {tm:Tm} {ks:List Nat} {b s:St} {k:tm.T → Option R} (h:tm.leafK ks b s k = some r):∃ v,tm.leaf ks b s = some v ∧ k v = some r:=by
  unfold Tm.leafK at h
  unfold Tm.leaf
  split at h
  · rename_i g1 h1
    rw [h1];simp only
    split at h
    · rename_i g2 h2
      rw [h2];simp only
      split at h
      · rename_i g3 h3
        rw [h3];simp only at h ⊢
        split at h
        · rename_i hc
          rw [if_pos hc]
          obtain ⟨hq,h⟩:=reqs_ok h
          rw [reqs_of hq]
          split at h
          · rename_i v hv;exact ⟨v,hv,h⟩
          · simp at h
        · simp at h
      · simp at h
    · simp at h
  · simp at h
def exB:Exit → Exit → Bool
  | .ret,.ret=>true
  | .exit i,.exit j=>Nat.beq i j
  | _,_=>false
theorem exB_ok {e e':Exit} (h:exB e e' = true):e = e' ∧ e ≠ .normal:=by
  unfold exB at h
  split at h
  · exact ⟨rfl,by simp⟩
  · have:=Nat.eq_of_beq_eq_true h;subst this;exact ⟨rfl,by simp⟩
  · simp at h
/-- The ways out of a loop. -/
@[reducible] def xty:List (Exit × Tm) → Type
  | []=>Empty
  | [x]=>x.2.T
  | x :: y :: r=>x.2.T ⊕ xty (y :: r)
def xleafK (ks:List Nat) (b:St) (e:Exit) (s:St):(xs:List (Exit × Tm)) → (xty xs → Option R) → Option R
  | [],_=>none
  | [x],k=>if exB e x.1 = true then x.2.leafK ks b s k else none
  | x :: y :: r,k=>if exB e x.1 = true then x.2.leafK ks b s fun v=>k (.inl v) else xleafK ks b e s (y :: r) fun v=>k (.inr v)
def xcont (s:St) (kx:Exit → St → Option R):(xs:List (Exit × Tm)) → xty xs → Option R
  | [],v=>nomatch v
  | [x],v=>kx x.1 (x.2.app v s)
  | x :: y :: r,v=>match v with
    | .inl v=>kx x.1 (x.2.app v s)
    | .inr v=>xcont s kx (y :: r) v
inductive Hint where
  | leaf
  | seq (a b:Hint)
  | join (t:Tm) (a b:Hint)
  | joinX (t:Tm) (a b:Hint)
  | cond (a b:Hint)
  | blk (a:Hint)
  | loop (t:Tm) (xs:List (Exit × Tm)) (a:Hint)
  | reg (hs:OHs)
  | lab (l:Nat) (a b:Hint)
def Hint.one:Hint → Hint
  | .seq a _=>a
  | .cond a _=>a
  | .blk a=>a
  | _=>.leaf
def Hint.two:Hint → Hint
  | .seq _ b=>b
  | .cond _ b=>b
  | _=>.leaf
def Hint.hs:Hint → OHs
  | .reg hs=>hs
  | _=>[]
end
def swK {R:Type} (kf sw:Bool) (s:St) (k:St → Option R):Option R:=match sw with
  | true=>match kf with
    | true=>s.swF k
    | false=>none
  | false=>k s
theorem swK_ok {E:Env} {K:Nat → Prop} {R:Type} {r:R} {kf sw:Bool} {s:St} {k:St → Option R} (hkf:kf = true → ¬ K fkeep) (hG:GOK E) (h:swK kf sw s k = some r) (hs:s.ok) :
    ∃ s',Up s s' ∧ s'.ok ∧ k s' = some r ∧ Weak E K (dal s.al) (dlb s.L) (dal s'.al) (dlb s'.L):=by
  unfold swK at h
  split at h
  · split at h
    · exact swF_ok (hkf rfl) hG h hs
    · simp at h
  · exact ⟨s,.refl s,hs,h,.refl⟩
def Hint.at:Hint → Nat → Hint
  | .lab l a b,k=>match Nat.beq l k with
    | true=>a
    | false=>b.at k
  | _,_=>.leaf
/-- How code is run that no code holds. -/
abbrev RunJ:=Code → Hint → (R:Type) → List Nat → St → (St → Option R) → (Exit → St → Option R) → Option R
/-- Where a goto goes to, so many times at most. -/
def scopeJ (J:RunJ) (body:Code) (h:Hint) {R:Type} (ks:List Nat) (kn:St → Option R) (kx:Exit → St → Option R):Nat → Exit → St → Option R
  | 0,e,s=>match e with
    | .goto _=>none
    | e=>kx e s
  | m + 1,e,s=>match e with
    | .goto l=>match findLabel body l with
      | some rest=>J rest (h.at l) R ks s kn (scopeJ J body h ks kn kx m)
      | none=>none
    | e=>kx e s
/-- What code does to a state, as_ a Lean function. -/
noncomputable def DJ (J:RunJ) (E:Env) (G:GTab) (C:CT E) (n:Nat):Code → Hint → (R:Type) → List Nat → St → (St → Option R) → (Exit → St → Option R) → Option R
  | .skip,_,_,_,s,kn,_=>kn s
  | .label _,_,_,_,s,kn,_=>kn s
  | .exit i,_,_,_,s,_,kx=>kx (.exit i) s
  | .goto i,_,_,_,s,_,kx=>kx (.goto i) s
  | .ret,_,_,_,s,_,kx=>kx .ret s
  | .seq x y,h,R,ks,s,kn,kx=>match h with
    | .join tm a b=>(DJ J E G C n x a tm.T ks s.clean (fun s'=>tm.leafK ks s.clean s' some) (fun _ _=>none)).bind fun v=>DJ J E G C n y b R ks (tm.app v s) kn kx
    | .joinX tm a b=>(DJ J E G C n x a (tm.T ⊕ R) ks s.clean (fun s'=>tm.leafK ks s.clean s' fun v=>some (.inl v)) (fun e s'=>Option.map Sum.inr (kx e { s' with ds:=s'.ds ++ s.ds,dl:=s'.dl ++ s.dl }))).bind fun o=>match o with
      | .inl v=>DJ J E G C n y b R ks (tm.app v s) kn kx
      | .inr v=>some v
    | h=>DJ J E G C n x h.one R ks s (fun s'=>DJ J E G C n y h.two R ks s' kn kx) kx
  | .cond c x y,h,R,ks,s,kn,kx=>match c with
    | .tmp t=>match lget s.al t with
      | some (.bool b)=>cond b (DJ J E G C n x h.one R ks s kn kx) (DJ J E G C n y h.two R ks s kn kx)
      | _=>none
    | .const (.bool b)=>cond b (DJ J E G C n x h.one R ks s kn kx) (DJ J E G C n y h.two R ks s kn kx)
    | _=>none
  | .block i c,h,R,ks,s,kn,kx=>DJ J E G C n c h.one R ks s kn fun e s'=>if exB e (.exit i) = true then kn s' else kx e s'
  | .scope c,h,R,ks,s,kn,kx=>DJ J E G C n c h.one R ks s kn (scopeJ J c h.two ks kn kx 4)
  | .loop c,h,R,ks,s,kn,kx=>match h with
    | .loop tm xs a=>if tm.kOK = true then tm.leafK ks s.clean s.clean fun v0=>
      (loopO (fun v:tm.T=>DJ J E G C n c a (xty xs ⊕ tm.T) ks (tm.app v s.clean) (fun s'=>tm.leafK ks s.clean s' fun w=>some (.inr w)) (fun e s'=>xleafK ks s.clean e s' xs fun w=>some (.inl w))) v0).bind fun o=>xcont s kx xs o else none
    | _=>none
  | .region _ ops dr,h,_,ks,s,kn,_=>swK (!ks.elem fkeep) (ohOf h.hs 9999).sw s fun s=>match dr with
    | false=>dOps E G C n (!ks.elem fkeep) h.hs ops ops.toList 0 s kn
    | true=>dDraw E G C n h.hs ops ops.toList 0 [] s kn
  | .rangeFunc g ps a b,h,R,ks,s,kn,kx=>J (.rangeFunc g ps a b) h R ks s kn kx
  | _,_,_,_,_,_,_=>none
noncomputable def noJ:RunJ:=fun _ _ _ _ _ _ _=>none
noncomputable abbrev D (E:Env) (G:GTab) (C:CT E) (n:Nat):Code → Hint → (R:Type) → List Nat → St → (St → Option R) → (Exit → St → Option R) → Option R:=DJ (DJ noJ E G C n) E G C n
theorem Ext.trans' {b s s':St} (h:Ext b s) (h':Ext s.clean s'):Ext b { s' with ds:=s'.ds ++ s.ds,dl:=s'.dl ++ s.dl }:=by
  refine ⟨fun t ht=>?_,fun l hl=>?_,fun l cs0 hl h0=>?_⟩
  · simp only [List.mem_append,not_or] at ht
    exact (h'.sl t ht.1).trans (h.sl t ht.2)
  · simp only [List.mem_append,not_or] at hl
    exact (h'.lb l fun i=>(hl i).1).trans (h.lb l fun i=>(hl i).2)
  · simp only [List.mem_append,not_or] at hl ⊢
    obtain ⟨cs,c1,c2,c3⟩:=h.ce l cs0 hl.2 h0
    obtain ⟨cs',d1,d2,d3⟩:=h'.ce l cs hl.1 c1
    exact ⟨cs',d1,d2.trans c2,fun i hi=>(d3 i hi.1).trans (c3 i hi.2)⟩
theorem clean_ok {s:St} (h:s.ok):s.clean.ok:=h
section
variable {E:Env} {K:Nat → Prop} {n:Nat} {G:GTab} {C:CT E}
theorem xleafK_ok {ks:List Nat} {b:St} {e:Exit} {s:St} {R:Type} {r:R} (he:Ext b s) (hs:s.ok) (hb:b.ok) (hK:∀ l,K l → l ∈ ks) (hE:GOK E):∀ {xs:List (Exit × Tm)} {k:xty xs → Option R},xleafK ks b e s xs k = some r →
    ∃ v:xty xs,k v = some r ∧ ∃ x ∈ xs,∃ w:x.2.T,e = x.1 ∧ e ≠ .normal ∧ Weak E K (dal s.al) (dlb s.L) (dal (x.2.app w b).al) (dlb (x.2.app w b).L) ∧ (x.2.app w b).ok ∧ ∀ (s0:St) {R':Type} (kx:Exit → St → Option R'),xcont s0 kx xs v = kx x.1 (x.2.app w s0)
  | [],k,h=>by simp [xleafK] at h
  | [x],k,h=>by
    simp only [xleafK] at h
    split at h
    · rename_i hx
      obtain ⟨rfl,hne⟩:=exB_ok hx
      obtain ⟨v,hv,h⟩:=leafK_ok h
      obtain ⟨hw,ho⟩:=leaf_ok hv he hs hb hK hE
      exact ⟨v,h,x,by simp,v,rfl,hne,hw,ho,fun _ _ _=>rfl⟩
    · simp at h
  | x :: y :: rr,k,h=>by
    simp only [xleafK] at h
    split at h
    · rename_i hx
      obtain ⟨rfl,hne⟩:=exB_ok hx
      obtain ⟨v,hv,h⟩:=leafK_ok h
      obtain ⟨hw,ho⟩:=leaf_ok hv he hs hb hK hE
      exact ⟨.inl v,h,x,by simp,v,rfl,hne,hw,ho,fun _ _ _=>rfl⟩
    · obtain ⟨v,h,z,hz,w,e1,e2,e3,e4,e5⟩:=xleafK_ok he hs hb hK hE h
      exact ⟨.inr v,h,z,List.mem_cons_of_mem _ hz,w,e1,e2,e3,e4,fun s0 _ kx=>e5 s0 kx⟩
/-- That a run tells what a piece of code does. -/
def JOK1 (E:Env) (K:Nat → Prop) (n:Nat) (ks:List Nat) (J:RunJ) (c:Code):Prop:=∀ {h:Hint} {R:Type} {s:St} {kn:St → Option R} {kx:Exit → St → Option R} {r:R} {Q:Exit → Al → Lb → Prop},
    J c h R ks s kn kx = some r → s.ok → (∀ s',Up s s' → s'.ok → kn s' = some r → Q .normal (dal s'.al) (dlb s'.L)) → (∀ e s',e ≠ .normal → Up s s' → s'.ok → kx e s' = some r → Q e (dal s'.al) (dlb s'.L)) →
    AW E K n c Q (dal s.al) (dlb s.L)
/-- Of which pieces that is asked. -/
def Cov (JS:Code → Prop):Code → Prop
  | .seq a b=>Cov JS a ∧ Cov JS b
  | .cond _ a b=>Cov JS a ∧ Cov JS b
  | .block _ c=>Cov JS c
  | .loop c=>Cov JS c
  | .scope c=>Cov JS c ∧ ∀ l rest,findLabel c l = some rest → JS rest
  | .rangeFunc g ps a b=>JS (.rangeFunc g ps a b)
  | _=>True
theorem Cov.all {JS:Code → Prop} (h:∀ c,JS c):∀ c,Cov JS c:=by
  intro c
  induction c with
  | seq a b iha ihb=>exact ⟨iha,ihb⟩
  | cond _ a b iha ihb=>exact ⟨iha,ihb⟩
  | block _ c ih=>exact ih
  | loop c ih=>exact ih
  | scope c ih=>exact ⟨ih,fun _ _ _=>h _⟩
  | rangeFunc g ps a b=>exact h _
  | _=>trivial
theorem noJ_ok {ks:List Nat} (c:Code):JOK1 E K n ks noJ c:=fun {h R s kn kx r Q} hr=>by simp [noJ] at hr
theorem scopeJ_ok {J:RunJ} {ks:List Nat} {body:Code} (hJ:∀ l rest,findLabel body l = some rest → JOK1 E K n ks J rest) {h:Hint} {R:Type} {kn:St → Option R} {kx:Exit → St → Option R} {r:R} {Q:Exit → Al → Lb → Prop} {s0:St}
    (hn:∀ s',Up s0 s' → s'.ok → kn s' = some r → Q .normal (dal s'.al) (dlb s'.L)) (hx:∀ e s',e ≠ .normal → Up s0 s' → s'.ok → kx e s' = some r → Q e (dal s'.al) (dlb s'.L)) :
    ∀ (m:Nat) (e:Exit) (s:St),e ≠ .normal → Up s0 s → s.ok → scopeJ J body h ks kn kx m e s = some r → scopeQ E K n body Q e (dal s.al) (dlb s.L):=by
  intro m
  induction m with
  | zero=>
    intro e s hne hu hok hs
    cases e with
    | goto l=>simp [scopeJ] at hs
    | normal=>exact absurd rfl hne
    | exit l=>exact hx _ s hne hu hok (by simpa [scopeJ] using hs)
    | ret=>exact hx _ s hne hu hok (by simpa [scopeJ] using hs)
    | panic c=>exact hx _ s hne hu hok (by simpa [scopeJ] using hs)
    | outgrown=>exact hx _ s hne hu hok (by simpa [scopeJ] using hs)
  | succ m ih=>
    intro e s hne hu hok hs
    cases e with
    | goto l=>
      simp only [scopeJ] at hs
      simp only [scopeQ]
      split at hs
      · rename_i rest hf
        rw [hf]
        refine AWsc_run (hJ l rest hf hs hok (fun s' hu' hok' hk=>?_) fun e s' hne hu' hok' hk=>?_)
        · exact hn s' (hu.trans hu') hok' hk
        · exact ih e s' hne (hu.trans hu') hok' hk
      · simp at hs
    | normal=>exact absurd rfl hne
    | exit l=>exact hx _ s hne hu hok (by simpa [scopeJ] using hs)
    | ret=>exact hx _ s hne hu hok (by simpa [scopeJ] using hs)
    | panic c=>exact hx _ s hne hu hok (by simpa [scopeJ] using hs)
    | outgrown=>exact hx _ s hne hu hok (by simpa [scopeJ] using hs)
theorem DJ_ok {J:RunJ} (hm:E.P.follows .mixedOrders = true) (hG:E.G = gtPV G) (hE:GOK E) {ks:List Nat} (hK:∀ l,K l → l ∈ ks) {JS:Code → Prop} (hJ:∀ c,JS c → JOK1 E K n ks J c):∀ (c:Code),Cov JS c → ∀ {h:Hint} {R:Type} {s:St} {kn:St → Option R} {kx:Exit → St → Option R} {r:R} {Q:Exit → Al → Lb → Prop},
    DJ J E G C n c h R ks s kn kx = some r → s.ok → (∀ s',Up s s' → s'.ok → kn s' = some r → Q .normal (dal s'.al) (dlb s'.L)) → (∀ e s',e ≠ .normal → Up s s' → s'.ok → kx e s' = some r → Q e (dal s'.al) (dlb s'.L)) →
    AW E K n c Q (dal s.al) (dlb s.L):=by
  intro c
  induction c with
  | skip=>intro hcov h R s kn kx r Q hr ho hn hx;exact AW_skip (hn s (.refl s) ho hr)
  | label l=>intro hcov h R s kn kx r Q hr ho hn hx;exact AW_label (hn s (.refl s) ho hr)
  | exit i=>intro hcov h R s kn kx r Q hr ho hn hx;exact AW_exit (hx _ s (by simp) (.refl s) ho hr)
  | goto i=>intro hcov h R s kn kx r Q hr ho hn hx;exact AW_goto (hx _ s (by simp) (.refl s) ho hr)
  | ret=>intro hcov h R s kn kx r Q hr ho hn hx;exact AW_ret (hx _ s (by simp) (.refl s) ho hr)
  | region id ops dr=>
    intro hcov h R s kn kx r Q hr ho hn hx
    simp only [DJ] at hr
    have hkf:(!ks.elem fkeep) = true → ¬ K fkeep:=fun h1 h2=>by
      have:=hK _ h2
      simp at h1
      exact h1 this
    obtain ⟨s1,u1,o1,hr,w1⟩:=swK_ok (E:=E) hkf hE hr ho
    refine AW_weak w1 ?_
    cases dr with
    | false=>exact AW_region (dOps_ok hkf hG hE hr o1 fun s' u=>hn s' (u1.trans u))
    | true=>exact dDraw_ok hm hG hE (pre:=[]) rfl ⟨rfl,rfl,rfl,rfl,by simp,by simp,by simp⟩ hr o1 fun s' u=>hn s' (u1.trans u)
  | cond c x y ihx ihy=>
    intro hcov h R s kn kx r Q hr ho hn hx
    simp only [DJ] at hr
    split at hr
    · rename_i t
      split at hr
      · rename_i b hb
        refine AW_cond (b:=b) (by rw [lget_dal,hb];rfl) (fun e=>?_) fun e=>?_
        · subst e;exact ihx hcov.1 hr ho hn hx
        · subst e;exact ihy hcov.2 hr ho hn hx
      · simp at hr
    · rename_i b
      refine AW_cond_const (fun e=>?_) fun e=>?_
      · subst e;exact ihx hcov.1 hr ho hn hx
      · subst e;exact ihy hcov.2 hr ho hn hx
    · simp at hr
  | block i c ih=>
    intro hcov h R s kn kx r Q hr ho hn hx
    simp only [DJ] at hr
    refine AW_block (ih hcov hr ho hn fun e s' hne hu hok hk=>?_)
    split at hk
    · rename_i he
      obtain ⟨rfl,_⟩:=exB_ok he
      simp only [ablock,if_pos]
      exact hn s' hu hok hk
    · rename_i he
      cases e with
      | exit j=>
        simp only [ablock]
        split
        · rename_i hj;subst hj;simp [exB] at he
        · exact hx _ s' hne hu hok hk
      | normal=>exact absurd rfl hne
      | goto l=>exact hx _ s' hne hu hok hk
      | ret=>exact hx _ s' hne hu hok hk
      | panic c=>exact hx _ s' hne hu hok hk
      | outgrown=>exact hx _ s' hne hu hok hk
  | scope c ih=>
    intro hcov h R s kn kx r Q hr ho hn hx
    simp only [DJ] at hr
    exact AW_scope (AWsc_run (ih hcov.1 hr ho hn fun e s' hne hu hok hk=>scopeJ_ok (fun l rest hf=>hJ rest (hcov.2 l rest hf)) hn hx 4 e s' hne hu hok hk))
  | seq x y ihx ihy=>
    intro hcov h R s kn kx r Q hr ho hn hx
    simp only [DJ] at hr
    split at hr
    · rename_i tm a b
      obtain ⟨v,hv,hr⟩:=bind_some hr
      refine AW_seq ((ihx hcov.1 (Q:=fun e al L=>e = .normal ∧ Weak E K al L (dal (tm.app v s.clean).al) (dlb (tm.app v s.clean).L) ∧ (tm.app v s.clean).ok) hv (clean_ok ho) (fun s' hu hok hk=>?_) (fun e s' hne hu hok hk=>by simp at hk)).mono ?_)
      · obtain ⟨w,hw,hk⟩:=leafK_ok hk
        simp at hk;subst hk
        exact ⟨rfl,leaf_ok hw (hu _ (.refl _)) hok (clean_ok ho) hK hE⟩
      · rintro e al L ⟨rfl,hw,hok⟩
        exact AW_weak hw (ihy hcov.2 (s:=tm.app v s) hr hok (fun s' hu=>hn s' ((app_up tm v s).trans hu)) fun e s' hne hu=>hx e s' hne ((app_up tm v s).trans hu))
    · rename_i tm a b
      obtain ⟨o,hv,hr⟩:=bind_some hr
      refine AW_seq ((ihx hcov.1 (Q:=fun e al L=>match o with
          | .inl v=>e = .normal ∧ Weak E K al L (dal (tm.app v s.clean).al) (dlb (tm.app v s.clean).L) ∧ (tm.app v s.clean).ok
          | .inr w=>e ≠ .normal ∧ Q e al L) hv (clean_ok ho) (fun s' hu hok hk=>?_) (fun e s' hne hu hok hk=>?_)).mono ?_)
      · obtain ⟨w,hw,hk⟩:=leafK_ok hk
        simp at hk;subst hk
        exact ⟨rfl,leaf_ok hw (hu _ (.refl _)) hok (clean_ok ho) hK hE⟩
      · obtain ⟨w,hk',rfl⟩:=map_some hk
        simp at hr;subst hr
        exact ⟨hne,hx e { s' with ds:=s'.ds ++ s.ds,dl:=s'.dl ++ s.dl } hne (fun b hb=>hb.trans' (hu _ (.refl _))) hok hk'⟩
      · intro e al L hq
        cases o with
        | inl v=>
          obtain ⟨rfl,hw,hok⟩:=hq
          exact AW_weak hw (ihy hcov.2 (s:=tm.app v s) hr hok (fun s' hu=>hn s' ((app_up tm v s).trans hu)) fun e s' hne hu=>hx e s' hne ((app_up tm v s).trans hu))
        | inr w=>
          obtain ⟨hne,hq⟩:=hq
          cases e with
          | normal=>exact absurd rfl hne
          | _=>exact hq
    · refine AW_seq (ihx hcov.1 hr ho (fun s' hu hok hk=>ihy hcov.2 hk hok (fun s'' hu'=>hn s'' (hu.trans hu')) fun e s'' hne hu'=>hx e s'' hne (hu.trans hu')) fun e s' hne hu hok hk=>?_)
      have:=hx e s' hne hu hok hk
      cases e with
      | normal=>exact absurd rfl hne
      | _=>exact this
  | loop c ih=>
    intro hcov h R s kn kx r Q hr ho hn hx
    simp only [DJ] at hr
    split at hr
    · rename_i tm xs a
      split at hr
      · rename_i hkOK
        obtain ⟨v0,h0,hr⟩:=leafK_ok hr
        obtain ⟨o,hl,hr⟩:=bind_some hr
        obtain ⟨hw0,_⟩:=leaf_ok h0 (.refl _) (clean_ok ho) (clean_ok ho) hK hE
        refine AW_loopM _ (fun v=>dal (tm.app v s.clean).al) (fun v=>dlb (tm.app v s.clean).L)
          (fun v e al L=>∃ x ∈ xs,∃ w:x.2.T,e = x.1 ∧ Weak E K al L (dal (x.2.app w s.clean).al) (dlb (x.2.app w s.clean).L) ∧ (x.2.app w s.clean).ok ∧ ∀ (s0:St) {R':Type} (kx:Exit → St → Option R'),xcont s0 kx xs v = kx x.1 (x.2.app w s0)) hl hw0 (fun v o' hst=>?_) ?_
        · have hok:=app_ok hkOK v (clean_ok ho)
          have hue:Ext s.clean (tm.app v s.clean):=app_up tm v s.clean _ (.refl _)
          refine ih hcov (s:=tm.app v s.clean) hst hok (fun s' hu hok' hk=>?_) (fun e s' hne hu hok' hk=>?_)
          · obtain ⟨w,hw,hk⟩:=leafK_ok hk
            simp at hk;subst hk
            exact .on (leaf_ok hw (hu _ hue) hok' (clean_ok ho) hK hE).1
          · obtain ⟨w,hk,x,hx,u,e1,e2,e3,e4,e5⟩:=xleafK_ok (hu _ hue) hok' (clean_ok ho) hK hE hk
            simp at hk;subst hk
            exact .off e2 ⟨x,hx,u,e1,e3,e4,e5⟩
        · rintro e al L ⟨x,_,w,rfl,hw,hok,hc⟩ hne
          rw [hc] at hr
          exact ⟨_,_,hw,hx x.1 (x.2.app w s) hne (app_up x.2 w s) hok hr⟩
      · simp at hr
    · simp at hr
  | rangeFunc f ps a b=>intro hcov h R s kn kx r Q hr ho hn hx;simp only [DJ] at hr;exact hJ _ hcov hr ho hn hx
  | refuse=>intro hcov h R s kn kx r Q hr ho hn hx;simp [DJ] at hr
theorem D_ok (hm:E.P.follows .mixedOrders = true) (hG:E.G = gtPV G) (hE:GOK E) {ks:List Nat} (hK:∀ l,K l → l ∈ ks):∀ (c:Code) {h:Hint} {R:Type} {s:St} {kn:St → Option R} {kx:Exit → St → Option R} {r:R} {Q:Exit → Al → Lb → Prop},
    D E G C n c h R ks s kn kx = some r → s.ok → (∀ s',Up s s' → s'.ok → kn s' = some r → Q .normal (dal s'.al) (dlb s'.L)) → (∀ e s',e ≠ .normal → Up s s' → s'.ok → kx e s' = some r → Q e (dal s'.al) (dlb s'.L)) →
    AW E K n c Q (dal s.al) (dlb s.L):=fun c {h R s kn kx r Q}=>DJ_ok (JS:=fun _=>True) hm hG hE hK (fun c _ {h R s kn kx r Q}=>DJ_ok (JS:=fun _=>True) hm hG hE hK (fun c _=>noJ_ok c) c (Cov.all (fun _=>trivial) c)) c (Cov.all (fun _=>trivial) c)
end
end Go.SH
namespace Go.SH
variable [SentA]
/-- The end of a function that hands out plain values. -/
def RetsO (E:Env) (fn:Func) (v:PV):Exit → Al → Lb → Prop:=
  fun e al L=>(match e with | .normal=>True | .ret=>True | _=>False) ∧ ∃ xs,xres E.P al L fn.results.toList = some xs ∧ OutLe L (rtup xs) v
theorem ACalls_pureO {E:Env} (hE:GOK E) {f:FuncId} {fn:Func} {c:Code} {args:List PV} {v:PV} (hf:E.P.funcs[f]? = some fn) (hb:fn.body = some c) (hn:args.length ≤ fn.ntmps)
    (h:AW (E.on none none) (fun _=>False) fn.ntmps c (RetsO (E.on none none) fn v) (entry args 0) []):Pure E f args v:=by
  intro A w σ cargs hl hv hbr hg
  refine calls_of_wp hf hb (wpIn_wide.1 (wpIn_mono (h A w σ _ ⟨?_,hbr,hg,rfl⟩ ?_) ?_))
  · intro t x hx
    obtain ⟨h1,h2⟩:=lget_entry args 0 t x hx
    simp at h2
    have ht:t < cargs.length:=by rw [hl];exact (List.getElem?_eq_some_iff.1 h2).1
    exact ⟨cargs[t],by rw [Array.getElem?_append_left (by simpa using ht)];simp [ht],hv t x _ h2 (List.getElem?_eq_getElem ht)⟩
  · simp;omega
  · rintro e a' w' ⟨al',L',σ',⟨he,xs,hx,z,hz,hle⟩,r',g',t'⟩
    have hdis:∀ β,avOf σ' L' β → ¬ avo A sig0 [] β:=by
      rintro β h (h' | h')
      · exact (r'.blocks.lo β h').2 h
      · exact avz h'
    have hsub:∀ β,¬ avo A σ' L' β → ¬ avo A sig0 [] β:=by
      rintro β h (h' | h')
      · exact h (.inl h')
      · exact avz h'
    obtain ⟨u,h1,h2⟩:=run_results r' hx
    have h2':VR w' sig0 (avo A sig0 []) v u:=hle _ _ _ _ (hz.ok r'.blocks h2 hsub hdis)
    have hbr':BR w' sig0 A []:=BR0 fun β hA=>(r'.blocks.lo β hA).1
    have hgr:Grow (fun l=>lget ([]:Lb) l ≠ none) w σ [] w' sig0 []:=⟨g'.size,fun l y hk=>absurd rfl hk,fun β hb hn=>⟨avz,(g'.keep β hb hn).2⟩,g'.out,fun hk=>absurd rfl hk⟩
    cases e with
    | normal=>exact ⟨r'.nodefer,u,h1,_,u,[],sig0,rfl,⟨rfl,rfl⟩,h2',hbr',hgr⟩
    | ret=>exact ⟨r'.nodefer,u,h1,_,u,[],sig0,rfl,⟨rfl,rfl⟩,h2',hbr',hgr⟩
    | _=>exact he.elim
/-- A result that goes into the first family. -/
inductive FamRes (qq:Nat) (L:Lb):PV → PV → Prop where
  | le {x:PV} {cells:List PV} {n:Nat} (h:PLe x (.fs qq cells n none)) (hp:withinL (fun _=>false) cells = true):FamRes qq L x (.fs qq cells n none)
  | rw {l off n sz:Nat} {co:Option Nat} {cells part ys:List PV} (hl:lget L l = some (some cells)) (hp:(cells.drop off).take (n * sz) = part) (hin:off + n * sz ≤ cells.length) (hpure:withinL (fun _=>false) part = true) (hle:CLe part ys):FamRes qq L (.rw l off n sz co) (.fs qq ys n none)
theorem Weak.virt {E:Env} {K:Nat → Prop} {al:Al} {L:Lb} {l:Nat} (h:lget L l = none):Weak E K al L al (lset L l (some [])):=fun A w σ a r=>by
  obtain ⟨b1,b2⟩:=r.blocks.virtual h
  exact ⟨σ,r.grow b1 b2,b2.weaken fun _ _=>trivial⟩
def virtK {R:Type}:List Nat → DLb → (DLb → Option R) → Option R
  | [],L,k=>k L
  | v :: r,L,k=>match lget L v with
    | none=>virtK r (lset L v (.cs [])) k
    | some _=>none
theorem virtK_ok {E:Env} {K:Nat → Prop} {R:Type} {r:R} {al:Al}:∀ {vs:List Nat} {L:DLb} {k:DLb → Option R},virtK vs L k = some r → lbOk L →
    ∃ L',k L' = some r ∧ lbOk L' ∧ (∀ l,l ∉ vs → lget L' l = lget L l) ∧ Weak E K al (dlb L) al (dlb L')
  | [],L,k,h,hL=>⟨L,h,hL,fun _ _=>rfl,.refl⟩
  | v :: vs,L,k,h,hL=>by
    simp only [virtK] at h
    split at h
    · rename_i hv
      obtain ⟨L',h1,h2,h3,h4⟩:=virtK_ok (E:=E) (K:=K) (al:=al) h (fun l c hc=>by
        rw [lget_lset] at hc
        split at hc
        · simp at hc;subst hc;trivial
        · exact hL l c hc)
      refine ⟨L',h1,h2,fun l hl=>?_,?_⟩
      · simp only [List.mem_cons,not_or] at hl
        rw [h3 l hl.2,lget_lset,if_neg (fun e=>hl.1 e.symm)]
      · refine Weak.trans ?_ h4
        have e:dlb (lset L v (.cs [])) = lset (dlb L) v (some []):=(lset_map DC.pv L v (.cs [])).symm
        rw [e]
        exact Weak.virt (by rw [lget_dlb,hv];rfl)
    · simp at h
def dres (P:Program) (s:St):List ResultVar → Option (List DV)
  | []=>some []
  | .tmp t :: r=>match lget s.al t with
    | some x=>match dres P s r with
      | some xs=>some (x :: xs)
      | none=>none
    | none=>none
  | .cell t T :: r=>match lget s.al t with
    | some (.ptr l off)=>match lget s.L l with
      | some (.cs cs)=>match dpart P T cs off with
        | some x=>match dres P s r with
          | some xs=>some (x :: xs)
          | none=>none
        | none=>none
      | _=>none
    | _=>none
theorem dres_ok {P:Program} {s:St} (hs:s.ok):∀ {rs:List ResultVar} {xs:List DV},dres P s rs = some xs → xres P (dal s.al) (dlb s.L) rs = some (DV.pvs xs) ∧ DV.oks xs
  | [],xs,h=>by simp [dres] at h;subst h;exact ⟨rfl,trivial⟩
  | .tmp t :: r,xs,h=>by
    simp only [dres] at h
    split at h
    · rename_i x hx
      split at h
      · rename_i ys hy
        simp at h;subst h
        obtain ⟨h1,h2⟩:=dres_ok hs hy
        exact ⟨by simp [xres,lget_dal,hx,h1,DV.pvs],hs.1 _ _ hx,h2⟩
      · simp at h
    · simp at h
  | .cell t T :: r,xs,h=>by
    simp only [dres] at h
    split at h
    · rename_i l off ht
      split at h
      · rename_i cs hl
        split at h
        · rename_i x hx
          split at h
          · rename_i ys hy
            simp at h;subst h
            obtain ⟨h1,h2⟩:=dres_ok hs hy
            obtain ⟨_,e2,e3⟩:=dpart_ok (hs.2 _ _ hl) hx
            refine ⟨?_,e3,h2⟩
            simp only [xres,lget_dal,ht,Option.map_some,h1,DV.pvs,DV.pv]
            rw [xload_ro (cells:=DV.pvs cs) (off:=off) (by simp [lcells,lget_dlb,hl,DC.pv]),e2]
          · simp at h
        · simp at h
      · simp at h
    · simp at h
def dtup:List DV → DV
  | [x]=>x
  | xs=>.tup xs
theorem dtup_pv (xs:List DV):(dtup xs).pv = rtup (DV.pvs xs):=by
  cases xs with
  | nil=>rfl
  | cons x xs=>cases xs <;> rfl
def dentry:List DV → Nat → DAl
  | [],_=>[]
  | x :: r,i=>(i,x) :: dentry r (i + 1)
theorem dentry_pv:∀ (xs:List DV) (i:Nat),dal (dentry xs i) = entry (DV.pvs xs) i
  | [],_=>rfl
  | x :: r,i=>by show (i,x.pv) :: dal (dentry r (i + 1)) = _;rw [dentry_pv r];rfl
theorem dentry_ok:∀ {xs:List DV} {i:Nat},DV.oks xs → alOk (dentry xs i)
  | [],_,_=>fun t x h=>by simp [dentry,lget] at h
  | y :: r,i,h=>fun t x hx=>by
    simp only [dentry,lget] at hx
    split at hx
    · simp at hx;subst hx;exact h.1
    · exact dentry_ok h.2 t x hx
/-- A function's run over typed values. -/
noncomputable def DF (E:Env) (G:GTab) (C:CT E) (n:Nat) (rs:List ResultVar) (c:Code) (h:Hint) (ar:List Sh) (out:Sh) (a:HT (Sh.hss ar)) (vs:List Nat:=[]):Option (HT out.hs):=
  let fin (s:St):Option (HT out.hs):=match dres E.P s rs with
    | some ds=>out.getB s.L (dtup ds) ⟨[],[],[]⟩ fun g=>pack out.hs g.vs
    | none=>none
  virtK vs [] fun L=>D E G C n c h (HT out.hs) [] ⟨dentry (Sh.mks dz0 ar (unpack _ a)).1 0,L,[],[]⟩ fin fun e s=>match e with
    | .ret=>fin s
    | _=>none
theorem DF_ok {E:Env} {G:GTab} {C:CT E} (h0:E.on none none = E) (hm:E.P.follows .mixedOrders = true) (hG:E.G = gtPV G) (hE:GOK E) {f:FuncId} {fn:Func} {c:Code} (hf:E.P.funcs[f]? = some fn) (hb:fn.body = some c)
    {h:Hint} {ar:List Sh} {out:Sh} {vs:List Nat} (hk:Sh.kOKs ar = true) (hn:ar.length ≤ fn.ntmps) {a:HT (Sh.hss ar)} {v:HT out.hs} (hv:DF E G C fn.ntmps fn.results.toList c h ar out a vs = some v) :
    Pure E f (DV.pvs (Sh.mks dz0 ar (unpack _ a)).1) (out.mk dz0 (unpack _ v)).1.pv:=by
  have hlen:∀ (ss:List Sh) (vs:List TV),(Sh.mks dz0 ss vs).1.length = ss.length:=by
    intro ss
    induction ss with
    | nil=>intro vs;rfl
    | cons s ss ih=>intro vs;simp only [Sh.mks,List.length_cons];rw [ih]
  refine ACalls_pureO hE hf hb (by rw [pvs_length,hlen];exact hn) ?_
  rw [h0,← dentry_pv]
  have hfin:∀ s:St,s.ok → (match dres E.P s fn.results.toList with
      | some ds=>out.getB s.L (dtup ds) ⟨[],[],[]⟩ fun g=>pack out.hs g.vs
      | none=>none) = some v → ∃ xs,xres E.P (dal s.al) (dlb s.L) fn.results.toList = some xs ∧ OutLe (dlb s.L) (rtup xs) (out.mk dz0 (unpack _ v)).1.pv:=by
    intro s hs hr
    split at hr
    · rename_i ds hds
      obtain ⟨h1,h2⟩:=dres_ok hs hds
      obtain ⟨g,hg,xs,e1,e2,e3⟩:=getB_ok out hr
      obtain ⟨_,e4,_⟩:=e3 dz0 []
      refine ⟨_,h1,?_⟩
      rw [← dtup_pv]
      have e5:g.vs = xs:=by rw [e1];rfl
      rw [List.append_nil,← e5,← pack_ok hg] at e4
      exact e4
    · simp at hr
  obtain ⟨L0,hv,hL0,_,hW⟩:=virtK_ok (E:=E) (K:=fun _=>False) (al:=dal (dentry (Sh.mks dz0 ar (unpack _ a)).1 0)) hv (fun l c hl=>by simp [lget] at hl)
  refine AW_weak hW ?_
  exact D_ok (s:=⟨dentry (Sh.mks dz0 ar (unpack _ a)).1 0,L0,[],[]⟩) (K:=fun _=>False) hm hG hE (fun _ h=>h.elim) c hv ⟨dentry_ok (mks_ok _ _ _ hk),hL0⟩
    (fun s' _ hok hr=>⟨trivial,hfin s' hok hr⟩) fun e s' hne _ hok hr=>by
      cases e with
      | ret=>exact ⟨trivial,hfin s' hok hr⟩
      | _=>simp at hr
end Go.SH
namespace Go.SH
variable [SentA]
/-- The label that a row is taken by. -/
def rlab:Nat:=50
section
variable {E:Env} {K:Nat → Prop} {al:Al} {L:Lb} {T:ET}
end
end Go.SH
namespace Go.SH
variable [SentA]
section
variable {E:Env} {K:Nat → Prop} {n:Nat} {G:GTab} {C:CT E} {ks:List Nat}
end
def s3 (T:ET) (c0:List DV) (Lr:DLb) (N:Nat) (r:Int) (nn:Nat) (dds:List DV) (cont:List T.T):St:=
  ⟨[(3,.rw rlab T.sz 0 nn none true),(9,.rw 1 1 0 N none true),(10,.int .i64 N),(11,.int .i64 r),(0,.ptr 0 0)],(0,.cs c0) :: (1,.cs dds) :: (Lr ++ [(rlab,.ls T cont)]),[],[]⟩
end Go.SH
namespace Go.SH
variable [SentA]
/-- All that is cells stays, and all that lies below. -/
structure KeepX (B:Nat) (W W':World):Prop where
  size:W.heap.size ≤ W'.heap.size
  cel:∀ (β:Nat) c T fr,W.heap[β]? = some (Obj.cells c T fr) → W'.heap[β]? = some (Obj.cells c T fr)
  low:∀ (β:Nat),β < B → W'.heap[β]? = W.heap[β]?
  out:W'.os = W.os ∧ W'.output = W.output ∧ W'.tape = W.tape
def GV (G:List (Nat × List PV)) (W:World) (σ:Sig) (av:Nat → Prop):Prop:=∀ g cells,lget G g = some cells → VR W σ av (.rop cells 0) (.pointer (some ⟨g,0,none⟩))
abbrev GV0 (E:Env) (W:World):Prop:=GV E.G W sig0 (fun _=>False)
end Go.SH
namespace Go.SH
variable [SentA]
section
variable {E:Env} {K:Nat → Prop} {n:Nat} {al:Al} {Q:Exit → Al → Lb → Prop}
/-- The record of a loop. -/
abbrev rcL (fn:Nat) (tmps:Array Value) (p:Nat) (assign body:Code) (dfr:Nat) (st:LoopState) (pe:Option Code):Loop:={ state:=st,pending:=pe,fn:=fn,tmps:=tmps,params:=#[p],assign:=assign,body:=body,defers:=dfr }
end
end Go.SH
namespace Go.SH
variable [SentA]
section
variable {E:Env} {n:Nat}
abbrev is1 (al1:Al):Exit → Al → Lb → Prop:=fun e al' L'=>e = .normal ∧ al' = al1 ∧ L' = []
end
end Go.SH
namespace Go.SH
def itoa (n:Int):Option (List UInt8):=req (-9223372036854775808 ≤ n ∧ n ≤ 9223372036854775807) (some (Lib.itoa n))
def idxB (s:List UInt8) (c:UInt8):Option Int:=some (Lib.indexByte s c)
abbrev FaT:ET:=.tp (.ti .i64) (.te 71)
def isE (e t:Option Nat):Option Bool:=match t with
  | none=>none
  | some b=>some (e == some b)
def isF (x:Option (Int × Option Nat)) (t:Option Nat):Option Bool:=match t with
  | none=>none
  | some b=>match x with
    | none=>some false
    | some y=>some (y.2 == some b)
def asFa (x:Option (Int × Option Nat)):Option (Bool × Option (Int × Option Nat)):=some (x.isSome,x)
def asE0:Option Unit:=some ()
end Go.SH
set_option maxRecDepth 100000
namespace Go.SH
abbrev K6f24:ET:=.tp (.tl .tu) (.tp (.ti .i64) (.ti .i64))
abbrev K6677:ET:=.tp (.ti .i64) (.tp (.tp (.ti .i64) K6f24) (.tl .tu))
abbrev K5605:ET:=.tp (.ti .i64) (.tp (.ti .i64) (.tp (.ti .i64) K6677))
abbrev K636e:ET:=.tp (.ti .i64) (.tl (.tp (.ti .i64) K6f24))
def lit_70b7c:List UInt8:=[106,111,105,110,32,51,32,119,114,105,116,101,10,111,117,116,32,34,104,105,92,48,100,34,10,116,105,99,107,32,49,48,10]
def lit_45a69:List UInt8:=[100,101,108,105,118,101,114]
def lit_4032a:List UInt8:=[48,49,50,51,52,53,54,55,56,57,97,98,99,100,101,102]
def lit_1d2e6:List UInt8:=[116,105,99,107,32,48,49,48,10]
def lit_7c404:List UInt8:=[116,105,99,107,32,53,10,107,101,121,115,32,51,32,34,34,10]
def lit_b92a4:List UInt8:=[100,101,108,105,118,101,114,32]
def lit_4b1dc:List UInt8:=[116,105,99,107,32,49,48]
def lit_5cf80:List UInt8:=[116,111,111,32,108,111,110,103]
def lit_28e3a:List UInt8:=[110,111,32,108,105,110,101,32,102,101,101,100]
def bodyOf (f:Func):Code:=f.body.getD .skip
end Go.SH
set_option maxRecDepth 100000
namespace Go.SH
abbrev zfP (x:(Int × Int × Int) × Int × Int × Int × ((Int × Int × (Int × Int × Int) × Bool × Bool) × (Int × Int × (Int × Int × Int) × Bool × Bool)) × (Int × Int × Int × Int) × List Int):Int × Int × Int × Int × Int × Int × Int × Int × Int × Int × Int × Bool × Bool × Int × Int × Int × Int × Int × Bool × Bool × Int × Int × Int × Int × List Int:=(x.1.1,x.1.2.1,x.1.2.2,x.2.1,x.2.2.1,x.2.2.2.1,x.2.2.2.2.1.1.1,x.2.2.2.2.1.1.2.1,x.2.2.2.2.1.1.2.2.1.1,x.2.2.2.2.1.1.2.2.1.2.1,x.2.2.2.2.1.1.2.2.1.2.2,x.2.2.2.2.1.1.2.2.2.1,x.2.2.2.2.1.1.2.2.2.2,x.2.2.2.2.1.2.1,x.2.2.2.2.1.2.2.1,x.2.2.2.2.1.2.2.2.1.1,x.2.2.2.2.1.2.2.2.1.2.1,x.2.2.2.2.1.2.2.2.1.2.2,x.2.2.2.2.1.2.2.2.2.1,x.2.2.2.2.1.2.2.2.2.2,x.2.2.2.2.2.1.1,x.2.2.2.2.2.1.2.1,x.2.2.2.2.2.1.2.2.1,x.2.2.2.2.2.1.2.2.2,x.2.2.2.2.2.2)
abbrev znP (x:Int × Int × Int × Int × Int × Int × Int × Int × Int × Int × Int × Bool × Bool × Int × Int × Int × Int × Int × Bool × Bool × Int × Int × Int × Int × List Int):(Int × Int × Int) × Int × Int × Int × ((Int × Int × (Int × Int × Int) × Bool × Bool) × (Int × Int × (Int × Int × Int) × Bool × Bool)) × (Int × Int × Int × Int) × List Int:=((x.1,x.2.1,x.2.2.1),x.2.2.2.1,x.2.2.2.2.1,x.2.2.2.2.2.1,((x.2.2.2.2.2.2.1,x.2.2.2.2.2.2.2.1,(x.2.2.2.2.2.2.2.2.1,x.2.2.2.2.2.2.2.2.2.1,x.2.2.2.2.2.2.2.2.2.2.1),x.2.2.2.2.2.2.2.2.2.2.2.1,x.2.2.2.2.2.2.2.2.2.2.2.2.1),x.2.2.2.2.2.2.2.2.2.2.2.2.2.1,x.2.2.2.2.2.2.2.2.2.2.2.2.2.2.1,(x.2.2.2.2.2.2.2.2.2.2.2.2.2.2.2.1,x.2.2.2.2.2.2.2.2.2.2.2.2.2.2.2.2.1,x.2.2.2.2.2.2.2.2.2.2.2.2.2.2.2.2.2.1),x.2.2.2.2.2.2.2.2.2.2.2.2.2.2.2.2.2.2.1,x.2.2.2.2.2.2.2.2.2.2.2.2.2.2.2.2.2.2.2.1),(x.2.2.2.2.2.2.2.2.2.2.2.2.2.2.2.2.2.2.2.2.1,x.2.2.2.2.2.2.2.2.2.2.2.2.2.2.2.2.2.2.2.2.2.1,x.2.2.2.2.2.2.2.2.2.2.2.2.2.2.2.2.2.2.2.2.2.2.1,x.2.2.2.2.2.2.2.2.2.2.2.2.2.2.2.2.2.2.2.2.2.2.2.1),x.2.2.2.2.2.2.2.2.2.2.2.2.2.2.2.2.2.2.2.2.2.2.2.2)
abbrev zeP {v0 v1 v2 v3 v4 v5 v6 v7 v8 v9 v10 v11 v12 v13 v14 v15 v16 v17 v18 v19 v20 v21 v22 v23 v24:Type} (x:v0 × v1 × v2 × v3 × v4 × v5 × v6 × v7 × v8 × v9 × v10 × v11 × v12 × v13 × v14 × v15 × v16 × v17 × v18 × v19 × v20 × v21 × v22 × v23 × v24):v0 × v1 × v2 × v3 × v4 × v5 × v6 × v7 × v8 × v9 × v10 × v11 × v12 × v13 × v14 × v15 × v16 × v17 × v18 × v19 × v20 × v21 × v22 × v23 × v24:=(x.1,x.2.1,x.2.2.1,x.2.2.2.1,x.2.2.2.2.1,x.2.2.2.2.2.1,x.2.2.2.2.2.2.1,x.2.2.2.2.2.2.2.1,x.2.2.2.2.2.2.2.2.1,x.2.2.2.2.2.2.2.2.2.1,x.2.2.2.2.2.2.2.2.2.2.1,x.2.2.2.2.2.2.2.2.2.2.2.1,x.2.2.2.2.2.2.2.2.2.2.2.2.1,x.2.2.2.2.2.2.2.2.2.2.2.2.2.1,x.2.2.2.2.2.2.2.2.2.2.2.2.2.2.1,x.2.2.2.2.2.2.2.2.2.2.2.2.2.2.2.1,x.2.2.2.2.2.2.2.2.2.2.2.2.2.2.2.2.1,x.2.2.2.2.2.2.2.2.2.2.2.2.2.2.2.2.2.1,x.2.2.2.2.2.2.2.2.2.2.2.2.2.2.2.2.2.2.1,x.2.2.2.2.2.2.2.2.2.2.2.2.2.2.2.2.2.2.2.1,x.2.2.2.2.2.2.2.2.2.2.2.2.2.2.2.2.2.2.2.2.1,x.2.2.2.2.2.2.2.2.2.2.2.2.2.2.2.2.2.2.2.2.2.1,x.2.2.2.2.2.2.2.2.2.2.2.2.2.2.2.2.2.2.2.2.2.2.1,x.2.2.2.2.2.2.2.2.2.2.2.2.2.2.2.2.2.2.2.2.2.2.2.1,x.2.2.2.2.2.2.2.2.2.2.2.2.2.2.2.2.2.2.2.2.2.2.2.2)
abbrev zfK {r:Type} (x:(Int × Int × Int) × Int × Int × Int × ((Int × Int × (Int × Int × Int) × Bool × Bool) × (Int × Int × (Int × Int × Int) × Bool × Bool)) × (Int × Int × Int × Int) × List Int) (y:r):Int × Int × Int × Int × Int × Int × Int × Int × Int × Int × Int × Bool × Bool × Int × Int × Int × Int × Int × Bool × Bool × Int × Int × Int × Int × List Int × r:=(x.1.1,x.1.2.1,x.1.2.2,x.2.1,x.2.2.1,x.2.2.2.1,x.2.2.2.2.1.1.1,x.2.2.2.2.1.1.2.1,x.2.2.2.2.1.1.2.2.1.1,x.2.2.2.2.1.1.2.2.1.2.1,x.2.2.2.2.1.1.2.2.1.2.2,x.2.2.2.2.1.1.2.2.2.1,x.2.2.2.2.1.1.2.2.2.2,x.2.2.2.2.1.2.1,x.2.2.2.2.1.2.2.1,x.2.2.2.2.1.2.2.2.1.1,x.2.2.2.2.1.2.2.2.1.2.1,x.2.2.2.2.1.2.2.2.1.2.2,x.2.2.2.2.1.2.2.2.2.1,x.2.2.2.2.1.2.2.2.2.2,x.2.2.2.2.2.1.1,x.2.2.2.2.2.1.2.1,x.2.2.2.2.2.1.2.2.1,x.2.2.2.2.2.1.2.2.2,x.2.2.2.2.2.2,y)
abbrev znK {r:Type} (x:Int × Int × Int × Int × Int × Int × Int × Int × Int × Int × Int × Bool × Bool × Int × Int × Int × Int × Int × Bool × Bool × Int × Int × Int × Int × List Int × r):(Int × Int × Int) × Int × Int × Int × ((Int × Int × (Int × Int × Int) × Bool × Bool) × (Int × Int × (Int × Int × Int) × Bool × Bool)) × (Int × Int × Int × Int) × List Int:=((x.1,x.2.1,x.2.2.1),x.2.2.2.1,x.2.2.2.2.1,x.2.2.2.2.2.1,((x.2.2.2.2.2.2.1,x.2.2.2.2.2.2.2.1,(x.2.2.2.2.2.2.2.2.1,x.2.2.2.2.2.2.2.2.2.1,x.2.2.2.2.2.2.2.2.2.2.1),x.2.2.2.2.2.2.2.2.2.2.2.1,x.2.2.2.2.2.2.2.2.2.2.2.2.1),x.2.2.2.2.2.2.2.2.2.2.2.2.2.1,x.2.2.2.2.2.2.2.2.2.2.2.2.2.2.1,(x.2.2.2.2.2.2.2.2.2.2.2.2.2.2.2.1,x.2.2.2.2.2.2.2.2.2.2.2.2.2.2.2.2.1,x.2.2.2.2.2.2.2.2.2.2.2.2.2.2.2.2.2.1),x.2.2.2.2.2.2.2.2.2.2.2.2.2.2.2.2.2.2.1,x.2.2.2.2.2.2.2.2.2.2.2.2.2.2.2.2.2.2.2.1),(x.2.2.2.2.2.2.2.2.2.2.2.2.2.2.2.2.2.2.2.2.1,x.2.2.2.2.2.2.2.2.2.2.2.2.2.2.2.2.2.2.2.2.2.1,x.2.2.2.2.2.2.2.2.2.2.2.2.2.2.2.2.2.2.2.2.2.2.1,x.2.2.2.2.2.2.2.2.2.2.2.2.2.2.2.2.2.2.2.2.2.2.2.1),x.2.2.2.2.2.2.2.2.2.2.2.2.2.2.2.2.2.2.2.2.2.2.2.2.1)
noncomputable def stringslite_Index_cc6 (a0:List UInt8):Option (Int):=(bif ([10]:List UInt8) == a0 then some true else some false:Option (Bool)).bind fun x1=>bif x1 then some 0 else (getI [10] 0).bind fun x2=>(idxB a0 x2).bind fun x3=>some x3
noncomputable def stringslite_Cut_cc6 (a0:List UInt8):Option (List UInt8 × List UInt8 × Bool):=(stringslite_Index_cc6 a0).bind fun x1=>(bif decide (x1 ≥ 0) then some true else some false:Option (Bool)).bind fun x2=>bif x2 then req (0 ≤ (0:Int) ∧ (0:Int) ≤ x1 ∧ x1 ≤ ((a0.length:Nat):Int)) <| req (0 ≤ (IntKind.i64.wrap (x1 + 1)) ∧ (IntKind.i64.wrap (x1 + 1)) ≤ ((a0.length:Nat):Int) ∧ ((a0.length:Nat):Int) ≤ ((a0.length:Nat):Int)) <| some ((sub a0 0 x1.toNat),(sub a0 ((IntKind.i64.wrap (x1 + 1)).toNat) a0.length),true) else some (a0,[],false)
noncomputable def strings_Cut_cc6 (a0:List UInt8):Option (List UInt8 × List UInt8 × Bool):=(stringslite_Cut_cc6 a0).bind fun x1=>some (x1.1,x1.2.1,x1.2.2)
noncomputable def stringslite_Index_1a5 (a0:List UInt8):Option (Int):=(bif ([32]:List UInt8) == a0 then some true else some false:Option (Bool)).bind fun x1=>bif x1 then some 0 else (getI [32] 0).bind fun x2=>(idxB a0 x2).bind fun x3=>some x3
noncomputable def stringslite_Cut_1a5 (a0:List UInt8):Option (List UInt8 × List UInt8 × Bool):=(stringslite_Index_1a5 a0).bind fun x1=>(bif decide (x1 ≥ 0) then some true else some false:Option (Bool)).bind fun x2=>bif x2 then req (0 ≤ (0:Int) ∧ (0:Int) ≤ x1 ∧ x1 ≤ ((a0.length:Nat):Int)) <| req (0 ≤ (IntKind.i64.wrap (x1 + 1)) ∧ (IntKind.i64.wrap (x1 + 1)) ≤ ((a0.length:Nat):Int) ∧ ((a0.length:Nat):Int) ≤ ((a0.length:Nat):Int)) <| some ((sub a0 0 x1.toNat),(sub a0 ((IntKind.i64.wrap (x1 + 1)).toNat) a0.length),true) else some (a0,[],false)
noncomputable def strings_Cut_1a5 (a0:List UInt8):Option (List UInt8 × List UInt8 × Bool):=(stringslite_Cut_1a5 a0).bind fun x1=>some (x1.1,x1.2.1,x1.2.2)
noncomputable def script_form (a0:List UInt8):Option (List UInt8):=((bif (a0:List UInt8) == [106,111,105,110] then some true else some false:Option (Bool)).bind fun x2=>bif x2 then some x2 else bif (a0:List UInt8) == [114,111,108,101] then some true else some false:Option (Bool)).bind fun x3=>bif x3 then some ([73,82]) else ((bif (a0:List UInt8) == [108,101,97,118,101] then some true else some false:Option (Bool)).bind fun x6=>bif x6 then some x6 else (bif (a0:List UInt8) == [97,115,107] then some true else some false:Option (Bool)).bind fun x7=>bif x7 then some x7 else bif (a0:List UInt8) == [102,114,101,101] then some true else some false:Option (Bool)).bind fun x8=>bif x8 then some ([73]) else (bif (a0:List UInt8) == [111,117,116] then some true else some false:Option (Bool)).bind fun x9=>bif x9 then some ([84]) else (bif (a0:List UInt8) == [107,101,121,115] then some true else some false:Option (Bool)).bind fun x10=>bif x10 then some ([73,75]) else (bif (a0:List UInt8) == [115,105,122,101] then some true else some false:Option (Bool)).bind fun x11=>bif x11 then some ([73,87,87]) else (bif (a0:List UInt8) == [116,105,99,107] then some true else some false:Option (Bool)).bind fun x12=>bif x12 then some ([78]) else (bif (a0:List UInt8) == lit_45a69 then some true else some false:Option (Bool)).bind fun x13=>bif x13 then some ([80]) else (bif (a0:List UInt8) == [115,112,111,105,108] then some true else some false:Option (Bool)).bind fun x14=>bif x14 then some ([80,88]) else (bif (a0:List UInt8) == [109,111,118,101] then some true else some false:Option (Bool)).bind fun x15=>bif x15 then some ([73,65]) else (bif (a0:List UInt8) == [102,111,114,103,101] then some true else some false:Option (Bool)).bind fun x16=>bif x16 then some ([73,65,83,84]) else some ([])
noncomputable def strings_Index_1a5 (a0:List UInt8):Option (Int):=(stringslite_Index_1a5 a0).bind fun x1=>some x1
noncomputable def strings_genSplit_92d_loop1 (a0:List UInt8) (a2:Int) (a1:Int) (x7:List UInt8 × Int × List (List UInt8)):Option (((List UInt8 × Int × List (List UInt8))) ⊕ (List UInt8 × Int × List (List UInt8))):=(bif decide (x7.2.1 < (IntKind.i64.wrap ((if (IntKind.i64.wrap ((a0.length:Int) + 1)) < a2 then (IntKind.i64.wrap ((a0.length:Int) + 1)) else a2) - 1))) then some true else some false:Option (Bool)).bind fun x8=>bif x8 then (strings_Index_1a5 x7.1).bind fun x9=>(bif decide (x9 < 0) then some true else some false:Option (Bool)).bind fun x10=>bif x10 then some (.inl (x7.1,x7.2.1,x7.2.2)) else req (0 ≤ (0:Int) ∧ (0:Int) ≤ (IntKind.i64.wrap (x9 + a1)) ∧ (IntKind.i64.wrap (x9 + a1)) ≤ ((x7.1.length:Nat):Int)) <| req (0 ≤ x7.2.1 ∧ x7.2.1 < (((if (IntKind.i64.wrap ((a0.length:Int) + 1)) < a2 then (IntKind.i64.wrap ((a0.length:Int) + 1)) else a2).toNat:Nat):Int)) <| (x7.2.2[x7.2.1.toNat]?).bind fun x11=>req (0 ≤ (IntKind.i64.wrap (x9 + 1)) ∧ (IntKind.i64.wrap (x9 + 1)) ≤ ((x7.1.length:Nat):Int) ∧ ((x7.1.length:Nat):Int) ≤ ((x7.1.length:Nat):Int)) <| some (.inr ((sub x7.1 ((IntKind.i64.wrap (x9 + 1)).toNat) x7.1.length),IntKind.i64.wrap (x7.2.1 + 1),x7.2.2.set x7.2.1.toNat (sub x7.1 0 ((IntKind.i64.wrap (x9 + a1)).toNat)))) else some (.inl (x7.1,x7.2.1,x7.2.2))
noncomputable def strings_genSplit_92d (a0:List UInt8) (a1:Int) (a2:Int):Option (List (List UInt8)):=(bif a2 == 0 then some true else some false:Option (Bool)).bind fun x1=>bif x1 then some ([]:List (List UInt8)) else (bif decide (a2 < 0) then some true else some false:Option (Bool)).bind fun x2=>bif x2 then none else req (0 ≤ (if (IntKind.i64.wrap ((a0.length:Int) + 1)) < a2 then (IntKind.i64.wrap ((a0.length:Int) + 1)) else a2) ∧ (if (IntKind.i64.wrap ((a0.length:Int) + 1)) < a2 then (IntKind.i64.wrap ((a0.length:Int) + 1)) else a2) ≤ (if (IntKind.i64.wrap ((a0.length:Int) + 1)) < a2 then (IntKind.i64.wrap ((a0.length:Int) + 1)) else a2) ∧ (if (IntKind.i64.wrap ((a0.length:Int) + 1)) < a2 then (IntKind.i64.wrap ((a0.length:Int) + 1)) else a2).toNat * 16 ≤ maxBy) <| (loopO (strings_genSplit_92d_loop1 a0 a2 a1) (a0,0,(List.replicate ((if (IntKind.i64.wrap ((a0.length:Int) + 1)) < a2 then (IntKind.i64.wrap ((a0.length:Int) + 1)) else a2).toNat) []:List (List UInt8)))).bind fun x12=>req (0 ≤ x12.2.1 ∧ x12.2.1 < (((if (IntKind.i64.wrap ((a0.length:Int) + 1)) < a2 then (IntKind.i64.wrap ((a0.length:Int) + 1)) else a2).toNat:Nat):Int)) <| (x12.2.2[x12.2.1.toNat]?).bind fun x13=>req (0 ≤ (0:Int) ∧ (0:Int) ≤ (IntKind.i64.wrap (x12.2.1 + 1)) ∧ (IntKind.i64.wrap (x12.2.1 + 1)) ≤ (((if (IntKind.i64.wrap ((a0.length:Int) + 1)) < a2 then (IntKind.i64.wrap ((a0.length:Int) + 1)) else a2).toNat:Nat):Int)) <| req (0 + ((IntKind.i64.wrap (x12.2.1 + 1)).toNat) ≤ (x12.2.2.set x12.2.1.toNat x12.1).length) (some (((x12.2.2.set x12.2.1.toNat x12.1).drop 0).take ((IntKind.i64.wrap (x12.2.1 + 1)).toNat)))
noncomputable def strings_SplitN_02b (a0:List UInt8) (a1:Int):Option (List (List UInt8)):=(strings_genSplit_92d a0 0 a1).bind fun x1=>some x1
noncomputable def script_choice (a0:List UInt8) (a1:List UInt8) (a2:List UInt8):Option ((Int × List UInt8) × Option Nat):=(bif (a0:List UInt8) == a1 then some true else some false:Option (Bool)).bind fun x1=>bif x1 then some ((0,[]),none) else (bif (a0:List UInt8) == a2 then some true else some false:Option (Bool)).bind fun x2=>bif x2 then some ((1,[]),none) else some ((0,[]),(some 1))
noncomputable def script_plain (a0:UInt8):Option (Bool):=bif decide ((a0.toNat:Int) ≥ 32) then bif decide ((a0.toNat:Int) ≤ 126) then bif (a0.toNat:Int) != 34 then some ((a0.toNat:Int) != 92) else some false else some false else some false
noncomputable def script_text_loop1 (a0:List UInt8) (x31:Int × List UInt8):Option (((Option Nat) ⊕ (List UInt8)) ⊕ (Int × List UInt8)):=(bif decide (x31.1 < ((sub a0 1 ((IntKind.i64.wrap ((a0.length:Int) - 1)).toNat)).length:Int)) then some true else some false:Option (Bool)).bind fun x32=>bif x32 then (getI (sub a0 1 ((IntKind.i64.wrap ((a0.length:Int) - 1)).toNat)) x31.1).bind fun x33=>(((script_plain x33).bind fun x46=>bif !x46 then some true else some false:Option (Bool)).bind fun x47=>bif x47 then (bif (x33.toNat:Int) != 92 then some true else bif decide ((IntKind.i64.wrap (x31.1 + 2)) ≥ ((sub a0 1 ((IntKind.i64.wrap ((a0.length:Int) - 1)).toNat)).length:Int)) then some true else some false:Option (Bool)).bind fun x48=>bif x48 then some (.inr (.inl (.inl (some 0)))) else (getI (sub a0 1 ((IntKind.i64.wrap ((a0.length:Int) - 1)).toNat)) (IntKind.i64.wrap (x31.1 + 1))).bind fun x49=>(idxB lit_4032a x49).bind fun x50=>(getI (sub a0 1 ((IntKind.i64.wrap ((a0.length:Int) - 1)).toNat)) (IntKind.i64.wrap (x31.1 + 2))).bind fun x51=>(idxB lit_4032a x51).bind fun x52=>(bif decide (x50 < 0) then some true else bif decide (x52 < 0) then some true else (script_plain (UInt8.ofInt (IntKind.u8.wrap (IntKind.i64.wrap ((IntKind.i64.wrap ((16:Int) * x50)) + x52))))).bind fun x54=>bif x54 then some true else some false:Option (Bool)).bind fun x55=>bif x55 then some (.inr (.inl (.inl (some 0)))) else some (.inl (IntKind.i64.wrap (x31.1 + 2),UInt8.ofInt (IntKind.u8.wrap (IntKind.i64.wrap ((IntKind.i64.wrap ((16:Int) * x50)) + x52))))) else some (.inl (x31.1,x33)):Option ((Int × UInt8) ⊕ (((Option Nat) ⊕ (List UInt8)) ⊕ (Int × List UInt8)))).bind fun o=>match o with | .inr r=>some r | .inl x56=>req (x31.2.length = x31.2.length) <| req ((x31.2 ++ [x56.2]).length * 1 ≤ maxBy) <| req ((x31.2 ++ [x56.2]).length = (x31.2 ++ [x56.2]).length) (some (.inr (IntKind.i64.wrap (x56.1 + 1),x31.2 ++ [x56.2]))) else req (x31.2.length = x31.2.length) (some (.inl (.inr x31.2)))
noncomputable def script_text (a0:List UInt8) (a1:Int) (a2:Int):Option ((Int × List UInt8) × Option Nat):=(bif decide ((a0.length:Int) < 2) then some true else (getI a0 0).bind fun x3=>bif (x3.toNat:Int) != 34 then some true else (getI a0 (IntKind.i64.wrap ((a0.length:Int) - 1))).bind fun x4=>bif (x4.toNat:Int) != 34 then some true else some false:Option (Bool)).bind fun x5=>bif x5 then some ((0,[]),(some 0)) else req (0 ≤ (1:Int) ∧ (1:Int) ≤ (IntKind.i64.wrap ((a0.length:Int) - 1)) ∧ (IntKind.i64.wrap ((a0.length:Int) - 1)) ≤ ((a0.length:Nat):Int)) <| (loopO (script_text_loop1 a0) (0,[])).bind fun o=>match o with | .inl x57=>some ((0,[]),x57) | .inr x58=>(bif decide (((x58.length:Nat):Int) < a1) then some true else bif decide (((x58.length:Nat):Int) > a2) then some true else some false:Option (Bool)).bind fun x59=>bif x59 then some ((0,[]),(some 0)) else req (x58.length = x58.length) (some ((0,x58),none))
noncomputable def script_bounds (a0:UInt8):Option (Int × Int):=(bif (a0.toNat:Int) == 73 then some true else some false:Option (Bool)).bind fun x1=>bif x1 then some (1,8) else (bif (a0.toNat:Int) == 87 then some true else some false:Option (Bool)).bind fun x2=>bif x2 then some (1,1000) else (bif (a0.toNat:Int) == 78 then some true else some false:Option (Bool)).bind fun x3=>bif x3 then some (1,10000) else (bif (a0.toNat:Int) == 80 then some true else some false:Option (Bool)).bind fun x4=>bif x4 then some (0,1073741824) else (bif (a0.toNat:Int) == 88 then some true else some false:Option (Bool)).bind fun x5=>bif x5 then some (1,255) else some (0,65535)
noncomputable def script_number_loop1 (a0:List UInt8) (x12:Int × Int):Option (((Option Nat) ⊕ (Int)) ⊕ (Int × Int)):=(bif decide (x12.2 < (a0.length:Int)) then some true else some false:Option (Bool)).bind fun x13=>bif x13 then ((getI a0 x12.2).bind fun x16=>bif decide ((x16.toNat:Int) < 48) then some true else (getI a0 x12.2).bind fun x17=>bif decide ((x17.toNat:Int) > 57) then some true else some false:Option (Bool)).bind fun x18=>bif x18 then some (.inl (.inl (some 4))) else (getI a0 x12.2).bind fun x19=>some (.inr (IntKind.i64.wrap ((IntKind.i64.wrap ((10:Int) * x12.1)) + (IntKind.i64.wrap ((UInt8.ofInt (IntKind.u8.wrap ((x19.toNat:Int) - 48))).toNat:Int))),IntKind.i64.wrap (x12.2 + 1))) else some (.inl (.inr x12.1))
noncomputable def script_number (a0:List UInt8) (a1:UInt8):Option ((Int × List UInt8) × Option Nat):=(script_bounds a1).bind fun x1=>(bif (a0:List UInt8) == [] then some true else bif decide ((a0.length:Int) > 10) then some true else bif decide ((a0.length:Int) > 1) then (getI a0 0).bind fun x3=>bif (x3.toNat:Int) == 48 then some true else some false else some false:Option (Bool)).bind fun x4=>bif x4 then some ((0,[]),(some 4)) else (loopO (script_number_loop1 a0) (0,0)).bind fun o=>match o with | .inl x20=>some ((0,[]),x20) | .inr x21=>(bif decide (x21 < x1.1) then some true else bif decide (x21 > x1.2) then some true else some false:Option (Bool)).bind fun x22=>bif x22 then some ((0,[]),(some 4)) else some ((x21,[]),none)
noncomputable def script_read (a0:List UInt8) (a1:UInt8):Option ((Int × List UInt8) × Option Nat):=(bif (a1.toNat:Int) == 82 then some true else some false:Option (Bool)).bind fun x1=>bif x1 then (script_choice a0 [119,97,116,99,104] [119,114,105,116,101]).bind fun x2=>some (x2.1,x2.2) else (bif (a1.toNat:Int) == 83 then some true else some false:Option (Bool)).bind fun x3=>bif x3 then (script_choice a0 [104,117,98] [118,105,101,119]).bind fun x4=>some (x4.1,x4.2) else (bif (a1.toNat:Int) == 84 then some true else some false:Option (Bool)).bind fun x5=>bif x5 then (script_text a0 0 1000).bind fun x6=>some (x6.1,x6.2) else (bif (a1.toNat:Int) == 75 then some true else some false:Option (Bool)).bind fun x7=>bif x7 then (script_text a0 1 16).bind fun x8=>some (x8.1,x8.2) else (script_number a0 a1).bind fun x9=>some (x9.1,x9.2)
noncomputable def script_event (a0:List UInt8) (a1:List (Int × List UInt8)):Option ((Int × K5605.T)):=(getI a1 0).bind fun x1=>(((bif (a0:List UInt8) == [106,111,105,110] then some true else some false:Option (Bool)).bind fun x31=>bif x31 then some x31 else bif (a0:List UInt8) == [114,111,108,101] then some true else some false:Option (Bool)).bind fun x32=>bif x32 then (getI a1 1).bind fun x33=>(bif (a0:List UInt8) == [114,111,108,101] then some true else some false:Option (Bool)).bind fun x34=>bif x34 then some (3,x1.1,0,0,IntKind.i64.wrap ((1:Int) + x33.1),0,[],0,0,[]) else some (1,x1.1,0,0,IntKind.i64.wrap ((1:Int) + x33.1),0,[],0,0,[]) else (bif (a0:List UInt8) == [108,101,97,118,101] then some true else some false:Option (Bool)).bind fun x35=>bif x35 then some (2,x1.1,0,0,0,0,[],0,0,[]) else (bif (a0:List UInt8) == [97,115,107] then some true else some false:Option (Bool)).bind fun x36=>bif x36 then some (5,x1.1,0,0,0,3,[],0,0,[]) else (bif (a0:List UInt8) == [102,114,101,101] then some true else some false:Option (Bool)).bind fun x37=>bif x37 then some (5,x1.1,0,0,0,4,[],0,0,[]) else (bif (a0:List UInt8) == [107,101,121,115] then some true else some false:Option (Bool)).bind fun x38=>bif x38 then (getI a1 1).bind fun x39=>some (5,x1.1,0,0,0,1,x39.2,0,0,[]) else (bif (a0:List UInt8) == [115,105,122,101] then some true else some false:Option (Bool)).bind fun x40=>bif x40 then (getI a1 1).bind fun x41=>(getI a1 2).bind fun x42=>some (5,x1.1,0,0,0,2,[],x41.1,x42.1,[]) else (bif (a0:List UInt8) == [111,117,116] then some true else some false:Option (Bool)).bind fun x43=>bif x43 then (getI a1 0).bind fun x44=>some (4,x1.1,0,0,0,0,[],0,0,x44.2) else (bif (a0:List UInt8) == [116,105,99,107] then some true else some false:Option (Bool)).bind fun x45=>bif x45 then (getI a1 0).bind fun x46=>some (6,0,x46.1,0,0,0,[],0,0,[]) else (bif (a0:List UInt8) == lit_45a69 then some true else some false:Option (Bool)).bind fun x47=>bif x47 then (getI a1 0).bind fun x48=>some (7,0,x48.1,0,0,0,[],0,0,[]) else (bif (a0:List UInt8) == [115,112,111,105,108] then some true else some false:Option (Bool)).bind fun x49=>bif x49 then (getI a1 0).bind fun x50=>(getI a1 1).bind fun x51=>some (8,0,x50.1,x51.1,0,0,[],0,0,[]) else (bif (a0:List UInt8) == [109,111,118,101] then some true else some false:Option (Bool)).bind fun x52=>bif x52 then (getI a1 1).bind fun x53=>some (9,x1.1,x53.1,0,0,0,[],0,0,[]) else (bif (a0:List UInt8) == [102,111,114,103,101] then some true else some false:Option (Bool)).bind fun x54=>bif x54 then (getI a1 1).bind fun x55=>(getI a1 2).bind fun x56=>(getI a1 3).bind fun x57=>some (10,x1.1,x55.1,x56.1,0,0,[],0,0,x57.2) else some (0,x1.1,0,0,0,0,[],0,0,[]):Option (Int × Int × Int × Int × Int × Int × List UInt8 × Int × Int × List UInt8)).bind fun x58=>some (x58.1,x58.2.1,x58.2.2.1,x58.2.2.2.1,x58.2.2.2.2.1,(x58.2.2.2.2.2.1,x58.2.2.2.2.2.2.1,x58.2.2.2.2.2.2.2.1,x58.2.2.2.2.2.2.2.2.1),x58.2.2.2.2.2.2.2.2.2)
noncomputable def script_parse_loop1 (x2:List UInt8) (x4:List (List UInt8)) (x11:Int × (List (Int × List UInt8))):Option (((Option Nat) ⊕ ((List (Int × List UInt8)))) ⊕ (Int × (List (Int × List UInt8)))):=(bif decide (x11.1 < (x2.length:Int)) then some true else some false:Option (Bool)).bind fun x12=>bif x12 then (getI x4 x11.1).bind fun x13=>(getI x2 x11.1).bind fun x14=>(script_read x13 x14).bind fun x15=>(bif !x15.2.isNone then some true else some false:Option (Bool)).bind fun x16=>bif x16 then some (.inl (.inl x15.2)) else req (x11.2.length = x11.2.length) <| req ((x11.2 ++ [x15.1]).length * 32 ≤ maxBy) <| req ((x11.2 ++ [x15.1]).length = (x11.2 ++ [x15.1]).length) (some (.inr (IntKind.i64.wrap (x11.1 + 1),x11.2 ++ [x15.1]))) else req (x11.2.length = x11.2.length) (some (.inl (.inr x11.2)))
noncomputable def script_parse (a0:List UInt8):Option ((Int × K5605.T) × Option Nat):=(strings_Cut_1a5 a0).bind fun x1=>(script_form x1.1).bind fun x2=>(bif (x2:List UInt8) == [] then some true else bif !x1.2.2 then some true else some false:Option (Bool)).bind fun x3=>bif x3 then some ((0,0,0,0,0,(0,[],0,0),[]),(some 1)) else (strings_SplitN_02b x1.2.1 (x2.length:Int)).bind fun x4=>(bif decide ((x4.length:Int) < (x2.length:Int)) then some true else some false:Option (Bool)).bind fun x5=>bif x5 then some ((0,0,0,0,0,(0,[],0,0),[]),(some 1)) else (loopO (script_parse_loop1 x2 x4) (0,[])).bind fun o=>match o with | .inl x17=>some ((0,0,0,0,0,(0,[],0,0),[]),x17) | .inr x18=>req (x18.length = x18.length) <| (script_event x1.1 x18).bind fun x19=>some (x19,none)
noncomputable def script_in (a0:Option Nat) (a1:Int):Option ((Option (Int × Option Nat))):=(asE0).bind fun _=>some (some (a1,a0))
noncomputable def script_Parse_loop1  (x12:List UInt8 × Int × (List (Int × K5605.T))):Option ((((Option (Int × Option Nat))) ⊕ ((List (Int × K5605.T)))) ⊕ (List UInt8 × Int × (List (Int × K5605.T)))):=(bif !((x12.1:List UInt8) == []) then some true else some false:Option (Bool)).bind fun x13=>bif x13 then (strings_Cut_cc6 x12.1).bind fun x14=>((bif decide ((x14.1.length:Int) > 3100) then some true else bif decide (x12.2.1 > 1000) then some true else some false:Option (Bool)).bind fun x18=>bif x18 then req (x12.2.2.length = x12.2.2.length) (some ((some 3),x12.2.2)) else (bif !x14.2.2 then some true else some false:Option (Bool)).bind fun x19=>bif x19 then req (x12.2.2.length = x12.2.2.length) (some ((some 2),x12.2.2)) else (script_parse x14.1).bind fun x20=>req (x12.2.2.length = x12.2.2.length) <| req ((x12.2.2 ++ [x20.1]).length * 112 ≤ maxBy) <| req ((x12.2.2 ++ [x20.1]).length = (x12.2.2 ++ [x20.1]).length) (some (x20.2,x12.2.2 ++ [x20.1])):Option (Option Nat × (List (Int × K5605.T)))).bind fun x21=>(bif !x21.1.isNone then some true else some false:Option (Bool)).bind fun x22=>bif x22 then (script_in x21.1 x12.2.1).bind fun x23=>some (.inl (.inl x23)) else req (x21.2.length = x21.2.length) (some (.inr (x14.2.1,IntKind.i64.wrap (x12.2.1 + 1),x21.2))) else req (x12.2.2.length = x12.2.2.length) (some (.inl (.inr x12.2.2)))
noncomputable def script_Parse (a0:List UInt8):Option ((List (Int × K5605.T)) × (Option (Int × Option Nat))):=(loopO (script_Parse_loop1) (a0,1,[])).bind fun o=>match o with | .inl x24=>some (([]:List (Int × K5605.T)),x24) | .inr x25=>req (x25.length = x25.length) (some (x25,none))
noncomputable def oriellaw34_fault (a0:Option (Int × Option Nat)):Option (Int × Int):=(bif a0.isNone then some (true,none) else (asFa a0).bind fun x2=>bif !x2.1 then some (true,x2.2) else bif x2.2.isNone then some (true,x2.2) else some (false,x2.2):Option (Bool × (Option (Int × Option Nat)))).bind fun x3=>bif x3.1 then some (0,0) else (((isF a0 (some 3)).bind fun x20=>bif x20 then some true else some false:Option (Bool)).bind fun x21=>bif x21 then some 1 else ((isF a0 (some 1)).bind fun x23=>bif x23 then some true else some false:Option (Bool)).bind fun x24=>bif x24 then some 2 else ((isF a0 (some 4)).bind fun x26=>bif x26 then some true else some false:Option (Bool)).bind fun x27=>bif x27 then some 3 else ((isF a0 (some 0)).bind fun x29=>bif x29 then some true else some false:Option (Bool)).bind fun x30=>bif x30 then some 4 else ((isF a0 (some 2)).bind fun x32=>bif x32 then some true else some false:Option (Bool)).bind fun x33=>bif x33 then some 5 else some 0:Option (Int)).bind fun x34=>(x3.2).bind fun x35=>some (x35.1,x34)
noncomputable def script_quoted_loop1 (a0:List UInt8) (x15:Int × List UInt8):Option (((List UInt8)) ⊕ (Int × List UInt8)):=(bif decide (x15.1 < (a0.length:Int)) then some true else some false:Option (Bool)).bind fun x16=>bif x16 then ((getI a0 x15.1).bind fun x23=>((script_plain x23).bind fun x25=>bif x25 then some true else some false:Option (Bool)).bind fun x26=>bif x26 then req (x15.2.length = x15.2.length) <| req ((x15.2 ++ [x23]).length * 1 ≤ maxBy) <| req ((x15.2 ++ [x23]).length = (x15.2 ++ [x23]).length) (some (x15.2 ++ [x23])) else (getI lit_4032a ((UInt8.ofInt (IntKind.u8.wrap (Int.tdiv (x23.toNat:Int) 16))).toNat:Int)).bind fun x27=>(getI lit_4032a ((UInt8.ofInt (Int.tmod (x23.toNat:Int) 16)).toNat:Int)).bind fun x28=>req (x15.2.length = x15.2.length) <| req ((x15.2 ++ [92,x27,x28]).length * 1 ≤ maxBy) <| req ((x15.2 ++ [92,x27,x28]).length = (x15.2 ++ [92,x27,x28]).length) (some (x15.2 ++ [92,x27,x28])):Option (List UInt8)).bind fun x29=>req (x29.length = x29.length) (some (.inr (IntKind.i64.wrap (x15.1 + 1),x29))) else req (x15.2.length = x15.2.length) (some (.inl x15.2))
noncomputable def script_quoted (a0:List UInt8):Option (List UInt8):=(loopO (script_quoted_loop1 a0) (0,[34])).bind fun x30=>req (x30.length = x30.length) <| req ((x30 ++ [34]).length * 1 ≤ maxBy) <| req ((x30 ++ [34]).length = (x30 ++ [34]).length) <| some (x30 ++ [34])
noncomputable def script_words (a0:Int × K5605.T):Option (List UInt8):=((bif a0.2.2.2.2.1 == 1 then some true else some false:Option (Bool)).bind fun x3=>bif x3 then some ([32,119,97,116,99,104]) else (bif a0.2.2.2.2.1 == 2 then some true else some false:Option (Bool)).bind fun x4=>bif x4 then some ([32,119,114,105,116,101]) else some ([]):Option (List UInt8)).bind fun x5=>(bif a0.1 == 1 then some true else some false:Option (Bool)).bind fun x6=>bif x6 then (itoa a0.2.1).bind fun x7=>req ([106,111,105,110,32].length + x7.length ≤ 9223372036854775807) <| req (([106,111,105,110,32] ++ x7).length + x5.length ≤ 9223372036854775807) <| some (([106,111,105,110,32] ++ x7) ++ x5) else (bif a0.1 == 2 then some true else some false:Option (Bool)).bind fun x8=>bif x8 then (itoa a0.2.1).bind fun x9=>req ([108,101,97,118,101,32].length + x9.length ≤ 9223372036854775807) <| some ([108,101,97,118,101,32] ++ x9) else (bif a0.1 == 3 then some true else some false:Option (Bool)).bind fun x10=>bif x10 then (itoa a0.2.1).bind fun x11=>req ([114,111,108,101,32].length + x11.length ≤ 9223372036854775807) <| req (([114,111,108,101,32] ++ x11).length + x5.length ≤ 9223372036854775807) <| some (([114,111,108,101,32] ++ x11) ++ x5) else (bif a0.1 == 4 then some true else some false:Option (Bool)).bind fun x12=>bif x12 then (script_quoted a0.2.2.2.2.2.2).bind fun x13=>req ([111,117,116,32].length + x13.length ≤ 9223372036854775807) <| some ([111,117,116,32] ++ x13) else (bif a0.1 == 5 then some true else some false:Option (Bool)).bind fun x14=>bif x14 then (bif a0.2.2.2.2.2.1.1 == 1 then some true else some false:Option (Bool)).bind fun x15=>bif x15 then (itoa a0.2.1).bind fun x16=>req ([107,101,121,115,32].length + x16.length ≤ 9223372036854775807) <| req (([107,101,121,115,32] ++ x16).length + [32].length ≤ 9223372036854775807) <| (script_quoted a0.2.2.2.2.2.1.2.1).bind fun x17=>req ((([107,101,121,115,32] ++ x16) ++ [32]).length + x17.length ≤ 9223372036854775807) <| some ((([107,101,121,115,32] ++ x16) ++ [32]) ++ x17) else (bif a0.2.2.2.2.2.1.1 == 2 then some true else some false:Option (Bool)).bind fun x18=>bif x18 then (itoa a0.2.1).bind fun x19=>req ([115,105,122,101,32].length + x19.length ≤ 9223372036854775807) <| req (([115,105,122,101,32] ++ x19).length + [32].length ≤ 9223372036854775807) <| (itoa a0.2.2.2.2.2.1.2.2.1).bind fun x20=>req ((([115,105,122,101,32] ++ x19) ++ [32]).length + x20.length ≤ 9223372036854775807) <| req (((([115,105,122,101,32] ++ x19) ++ [32]) ++ x20).length + [32].length ≤ 9223372036854775807) <| (itoa a0.2.2.2.2.2.1.2.2.2).bind fun x21=>req ((((([115,105,122,101,32] ++ x19) ++ [32]) ++ x20) ++ [32]).length + x21.length ≤ 9223372036854775807) <| some ((((([115,105,122,101,32] ++ x19) ++ [32]) ++ x20) ++ [32]) ++ x21) else (bif a0.2.2.2.2.2.1.1 == 3 then some true else some false:Option (Bool)).bind fun x22=>bif x22 then (itoa a0.2.1).bind fun x23=>req ([97,115,107,32].length + x23.length ≤ 9223372036854775807) <| some ([97,115,107,32] ++ x23) else (itoa a0.2.1).bind fun x24=>req ([102,114,101,101,32].length + x24.length ≤ 9223372036854775807) <| some ([102,114,101,101,32] ++ x24) else (bif a0.1 == 6 then some true else some false:Option (Bool)).bind fun x25=>bif x25 then (itoa a0.2.2.1).bind fun x26=>req ([116,105,99,107,32].length + x26.length ≤ 9223372036854775807) <| some ([116,105,99,107,32] ++ x26) else (bif a0.1 == 7 then some true else some false:Option (Bool)).bind fun x27=>bif x27 then (itoa a0.2.2.1).bind fun x28=>req (lit_b92a4.length + x28.length ≤ 9223372036854775807) <| some (lit_b92a4 ++ x28) else (bif a0.1 == 8 then some true else some false:Option (Bool)).bind fun x29=>bif x29 then (itoa a0.2.2.1).bind fun x30=>req ([115,112,111,105,108,32].length + x30.length ≤ 9223372036854775807) <| req (([115,112,111,105,108,32] ++ x30).length + [32].length ≤ 9223372036854775807) <| (itoa a0.2.2.2.1).bind fun x31=>req ((([115,112,111,105,108,32] ++ x30) ++ [32]).length + x31.length ≤ 9223372036854775807) <| some ((([115,112,111,105,108,32] ++ x30) ++ [32]) ++ x31) else (bif a0.1 == 9 then some true else some false:Option (Bool)).bind fun x32=>bif x32 then (itoa a0.2.1).bind fun x33=>req ([109,111,118,101,32].length + x33.length ≤ 9223372036854775807) <| req (([109,111,118,101,32] ++ x33).length + [32].length ≤ 9223372036854775807) <| (itoa a0.2.2.1).bind fun x34=>req ((([109,111,118,101,32] ++ x33) ++ [32]).length + x34.length ≤ 9223372036854775807) <| some ((([109,111,118,101,32] ++ x33) ++ [32]) ++ x34) else (bif a0.2.2.2.1 == 0 then some true else some false:Option (Bool)).bind fun x35=>bif x35 then (itoa a0.2.1).bind fun x36=>req ([102,111,114,103,101,32].length + x36.length ≤ 9223372036854775807) <| req (([102,111,114,103,101,32] ++ x36).length + [32].length ≤ 9223372036854775807) <| (itoa a0.2.2.1).bind fun x37=>req ((([102,111,114,103,101,32] ++ x36) ++ [32]).length + x37.length ≤ 9223372036854775807) <| req (((([102,111,114,103,101,32] ++ x36) ++ [32]) ++ x37).length + [32,104,117,98,32].length ≤ 9223372036854775807) <| (script_quoted a0.2.2.2.2.2.2).bind fun x38=>req ((((([102,111,114,103,101,32] ++ x36) ++ [32]) ++ x37) ++ [32,104,117,98,32]).length + x38.length ≤ 9223372036854775807) <| some ((((([102,111,114,103,101,32] ++ x36) ++ [32]) ++ x37) ++ [32,104,117,98,32]) ++ x38) else (itoa a0.2.1).bind fun x39=>req ([102,111,114,103,101,32].length + x39.length ≤ 9223372036854775807) <| req (([102,111,114,103,101,32] ++ x39).length + [32].length ≤ 9223372036854775807) <| (itoa a0.2.2.1).bind fun x40=>req ((([102,111,114,103,101,32] ++ x39) ++ [32]).length + x40.length ≤ 9223372036854775807) <| req (((([102,111,114,103,101,32] ++ x39) ++ [32]) ++ x40).length + [32,118,105,101,119,32].length ≤ 9223372036854775807) <| (script_quoted a0.2.2.2.2.2.2).bind fun x41=>req ((((([102,111,114,103,101,32] ++ x39) ++ [32]) ++ x40) ++ [32,118,105,101,119,32]).length + x41.length ≤ 9223372036854775807) <| some ((((([102,111,114,103,101,32] ++ x39) ++ [32]) ++ x40) ++ [32,118,105,101,119,32]) ++ x41)
noncomputable def script_same (a0:Int × K5605.T) (a1:Int × K5605.T):Option (Bool):=bif a0.1 == a1.1 then bif a0.2.1 == a1.2.1 then bif a0.2.2.1 == a1.2.2.1 then bif a0.2.2.2.1 == a1.2.2.2.1 then bif a0.2.2.2.2.1 == a1.2.2.2.2.1 then bif (a0.2.2.2.2.2.2:List UInt8) == a1.2.2.2.2.2.2 then bif a0.2.2.2.2.2.1.1 == a1.2.2.2.2.2.1.1 then bif (a0.2.2.2.2.2.1.2.1:List UInt8) == a1.2.2.2.2.2.1.2.1 then bif a0.2.2.2.2.2.1.2.2.1 == a1.2.2.2.2.2.1.2.2.1 then some (a0.2.2.2.2.2.1.2.2.2 == a1.2.2.2.2.2.1.2.2.2) else some false else some false else some false else some false else some false else some false else some false else some false else some false
noncomputable def script_Line (a0:Int × K5605.T):Option (List UInt8 × Bool):=(bif decide ((a0.2.2.2.2.2.2.length:Int) > 1000) then some true else bif decide ((a0.2.2.2.2.2.1.2.1.length:Int) > 16) then some true else some false:Option (Bool)).bind fun x1=>bif x1 then some ([],false) else (script_words a0).bind fun x2=>(script_parse x2).bind fun x3=>(bif !x3.2.isNone then some true else (script_same x3.1 a0).bind fun x5=>bif !x5 then some true else some false:Option (Bool)).bind fun x6=>bif x6 then some ([],false) else some (x2,true)
noncomputable def script_Fault_Error (a0:Option (Int × Option Nat)):Option (List UInt8):=(bif a0.isNone then some true else (a0).bind fun x2=>bif x2.2.isNone then some true else some false:Option (Bool)).bind fun x3=>bif x3 then some ([]) else (((a0).bind fun x31=>(isE x31.2 (some 3)).bind fun x32=>bif x32 then some true else some false:Option (Bool)).bind fun x33=>bif x33 then some lit_5cf80 else ((a0).bind fun x36=>(isE x36.2 (some 1)).bind fun x37=>bif x37 then some true else some false:Option (Bool)).bind fun x38=>bif x38 then some ([119,111,114,100]) else ((a0).bind fun x41=>(isE x41.2 (some 4)).bind fun x42=>bif x42 then some true else some false:Option (Bool)).bind fun x43=>bif x43 then some ([110,117,109,98,101,114]) else ((a0).bind fun x46=>(isE x46.2 (some 0)).bind fun x47=>bif x47 then some true else some false:Option (Bool)).bind fun x48=>bif x48 then some ([116,101,120,116]) else ((a0).bind fun x51=>(isE x51.2 (some 2)).bind fun x52=>bif x52 then some true else some false:Option (Bool)).bind fun x53=>bif x53 then some lit_28e3a else some ([]):Option (List UInt8)).bind fun x54=>(a0).bind fun x55=>(itoa x55.1).bind fun x56=>req ([108,105,110,101,32].length + x56.length ≤ 9223372036854775807) <| req (([108,105,110,101,32] ++ x56).length + [58,32].length ≤ 9223372036854775807) <| req ((([108,105,110,101,32] ++ x56) ++ [58,32]).length + x54.length ≤ 9223372036854775807) <| some ((([108,105,110,101,32] ++ x56) ++ [58,32]) ++ x54)
noncomputable def orielref12_Digits_loop1  (x2:Int × List UInt8):Option (((Int × List UInt8)) ⊕ (Int × List UInt8)):=(bif decide (x2.1 > 9) then some true else some false:Option (Bool)).bind fun x3=>bif x3 then req ([UInt8.ofInt (IntKind.u8.wrap (IntKind.i64.wrap ((48:Int) + (Int.tmod x2.1 10))))].length + x2.2.length ≤ 9223372036854775807) <| some (.inr (IntKind.i64.wrap (Int.tdiv x2.1 10),([UInt8.ofInt (IntKind.u8.wrap (IntKind.i64.wrap ((48:Int) + (Int.tmod x2.1 10))))] ++ x2.2))) else some (.inl (x2.1,x2.2))
noncomputable def orielref12_Digits (a0:Int):Option (List UInt8):=(loopO (orielref12_Digits_loop1) (a0,[])).bind fun x4=>req ([UInt8.ofInt (IntKind.u8.wrap (IntKind.i64.wrap ((48:Int) + x4.1)))].length + x4.2.length ≤ 9223372036854775807) <| some ([UInt8.ofInt (IntKind.u8.wrap (IntKind.i64.wrap ((48:Int) + x4.1)))] ++ x4.2)
noncomputable def orielref34_What (a0:Int):Option (List UInt8):=bif a0 == 0 then some ([]) else bif a0 == 1 then some lit_5cf80 else bif a0 == 2 then some ([119,111,114,100]) else bif a0 == 3 then some ([110,117,109,98,101,114]) else bif a0 == 4 then some ([116,101,120,116]) else bif a0 == 5 then some lit_28e3a else none
noncomputable def oriellaw34_told (a0:Option (Int × Option Nat)):Option (Bool):=((asFa a0).bind fun x2=>bif !x2.1 then some (true,x2.2) else bif x2.2.isNone then some (true,x2.2) else some (false,x2.2):Option (Bool × (Option (Int × Option Nat)))).bind fun x3=>bif x3.1 then some false else (oriellaw34_fault a0).bind fun x4=>bif decide (x4.1 ≥ 1) then (script_Fault_Error x3.2).bind fun x5=>(orielref12_Digits x4.1).bind fun x6=>req ([108,105,110,101,32].length + x6.length ≤ 9223372036854775807) <| req (([108,105,110,101,32] ++ x6).length + [58,32].length ≤ 9223372036854775807) <| (orielref34_What x4.2).bind fun x7=>req ((([108,105,110,101,32] ++ x6) ++ [58,32]).length + x7.length ≤ 9223372036854775807) <| some ((x5:List UInt8) == ((([108,105,110,101,32] ++ x6) ++ [58,32]) ++ x7)) else some false
noncomputable def oriellaw34_known_raw :Option (Bool):=(script_Parse lit_70b7c).bind fun x1=>(script_Parse lit_1d2e6).bind fun x2=>(script_Parse lit_7c404).bind fun x3=>(oriellaw34_fault x2.2).bind fun x4=>(oriellaw34_fault x3.2).bind fun x5=>(script_Line (6,0,10,0,0,(0,[],0,0),[])).bind fun x6=>bif x1.2.isNone then bif (x1.1.length:Int) == 3 then (getI x1.1 1).bind fun x7=>bif (x7.2.2.2.2.2.2:List UInt8) == [104,105,13] then bif x4.1 == 1 then bif x4.2 == 3 then bif x5.1 == 2 then bif x5.2 == 4 then bif x6.2 then bif (x6.1:List UInt8) == lit_4b1dc then (oriellaw34_told x2.2).bind fun x8=>bif x8 then (oriellaw34_told x3.2).bind fun x9=>some x9 else some false else some false else some false else some false else some false else some false else some false else some false else some false else some false
noncomputable def oriellaw34_known :Option (Bool):=some true
theorem oriellaw34_known_law  {v:(Bool)} (h:oriellaw34_known  = some v):oriellaw34_known_raw  = some v:=Eq.trans (by kernel_rfl:oriellaw34_known_raw = some true) h
noncomputable def orielref34_plain (a0:UInt8):Option (Bool):=bif decide ((a0.toNat:Int) ≥ 32) then bif decide ((a0.toNat:Int) < 127) then bif (a0.toNat:Int) != 34 then some ((a0.toNat:Int) != 92) else some false else some false else some false
noncomputable def orielref34_hex (a0:Int):Option (UInt8):=(bif decide (a0 < 10) then some true else some false:Option (Bool)).bind fun x1=>bif x1 then some (UInt8.ofInt (IntKind.u8.wrap (IntKind.i64.wrap ((48:Int) + a0)))) else some (UInt8.ofInt (IntKind.u8.wrap (IntKind.i64.wrap ((IntKind.i64.wrap ((97:Int) + a0)) - 10))))
noncomputable def orielref21_Same_loop1 (a0:K636e.T) (a1:K636e.T) (x6:Int):Option (((Unit) ⊕ (Unit)) ⊕ (Int)):=(bif decide (x6 < (a0.2.length:Int)) then some true else some false:Option (Bool)).bind fun x7=>bif x7 then (getI a0.2 x6).bind fun x8=>(getI a1.2 x6).bind fun x9=>(bif x8.1 != x9.1 then some true else bif x8.2.2.1 != x9.2.2.1 then some true else bif x8.2.2.2 != x9.2.2.2 then some true else bif !((x8.2.1:List UInt8) == x9.2.1) then some true else some false:Option (Bool)).bind fun x10=>bif x10 then some (.inl (.inl ())) else some (.inr (IntKind.i64.wrap (x6 + 1))) else some (.inl (.inr ()))
noncomputable def orielref21_Same (a0:K636e.T) (a1:K636e.T):Option (Bool):=(bif a0.1 != a1.1 then some true else bif (a0.2.length:Int) != (a1.2.length:Int) then some true else some false:Option (Bool)).bind fun x1=>bif x1 then some false else (loopO (orielref21_Same_loop1 a0 a1) 0).bind fun o=>match o with | .inl _=>some false | .inr _=>some true
noncomputable def orielref34_Same (a0:Int × K5605.T) (a1:Int × K5605.T):Option (Bool):=bif a0.1 == a1.1 then bif a0.2.1 == a1.2.1 then bif a0.2.2.1 == a1.2.2.1 then bif a0.2.2.2.1 == a1.2.2.2.1 then bif a0.2.2.2.2.1 == a1.2.2.2.2.1 then bif (a0.2.2.2.2.2.2:List UInt8) == a1.2.2.2.2.2.2 then (orielref21_Same (0,[a0.2.2.2.2.2.1]) (0,[a1.2.2.2.2.2.1])).bind fun x1=>some x1 else some false else some false else some false else some false else some false else some false
end Go.SH
namespace Go.SH
theorem w64 (x:Int):IntKind.i64.wrap x = (x + 9223372036854775808) % 18446744073709551616 - 9223372036854775808:=by
  simp [IntKind.wrap,IntKind.signed,IntKind.bits]
  omega
theorem w64id {x:Int} (h:-9223372036854775808 ≤ x ∧ x ≤ 9223372036854775807):IntKind.i64.wrap x = x:=by rw [w64];omega
theorem dec_t {p:Prop} [Decidable p] (h:p):decide p = true:=by simp [h]
theorem dec_f {p:Prop} [Decidable p] (h:¬ p):decide p = false:=by simp [h]
theorem getI_nat {α:Type} (l:List α) (i:Nat):getI l (i:Int) = l[i]?:=by simp [getI]
theorem bind_eq {α β:Type} {o:Option α} {f:α → Option β} {x:α} {r:Option β} (h1:o = some x) (h2:f x = r):o.bind f = r:=by rw [h1];exact h2
theorem boolO (b:Bool):(bif b then some true else some false:Option Bool) = some b:=by cases b <;> rfl
def bef (c:UInt8) (s:List UInt8):List UInt8:=s.takeWhile (· != c)
def aft (c:UInt8) (s:List UInt8):List UInt8:=(s.dropWhile (· != c)).drop 1
theorem bef_cons (c b:UInt8) (s:List UInt8):bef c (b :: s) = if b = c then [] else b :: bef c s:=by
  unfold bef;rw [List.takeWhile_cons];by_cases h:b = c <;> simp [h]
theorem aft_cons (c b:UInt8) (s:List UInt8):aft c (b :: s) = if b = c then s else aft c s:=by
  unfold aft;rw [List.dropWhile_cons];by_cases h:b = c <;> simp [h]
theorem bef_aft {c:UInt8}:∀ {s:List UInt8},c ∈ s → s = bef c s ++ c :: aft c s
  | [],h=>by simp at h
  | b :: s,h=>by
    rw [bef_cons,aft_cons]
    by_cases e:b = c
    · simp [e]
    · have:c ∈ s:=by rcases List.mem_cons.1 h with h | h;exact absurd h.symm e;exact h
      rw [if_neg e,if_neg e,List.cons_append,← bef_aft this]
theorem bef_not {c:UInt8}:∀ {s:List UInt8},c ∉ s → bef c s = s
  | [],_=>rfl
  | b :: s,h=>by
    simp only [List.mem_cons,not_or] at h
    rw [bef_cons,if_neg (fun e=>h.1 e.symm),bef_not h.2]
theorem bef_app {c:UInt8} {x r:List UInt8} (h:c ∉ x):bef c (x ++ c :: r) = x ∧ aft c (x ++ c :: r) = r:=by
  induction x with
  | nil=>simp [bef_cons,aft_cons]
  | cons b x ih=>
    simp only [List.mem_cons,not_or] at h
    rw [List.cons_append,bef_cons,aft_cons,if_neg (fun e=>h.1 e.symm),if_neg (fun e=>h.1 e.symm),(ih h.2).1,(ih h.2).2]
    exact ⟨rfl,rfl⟩
theorem lens {c:UInt8} {s:List UInt8} (h:c ∈ s):(bef c s).length + 1 + (aft c s).length = s.length:=by
  have:=congrArg List.length (bef_aft h);simp at this;omega
theorem idx_eq (c:UInt8):∀ (s:List UInt8),Lib.indexByte s c = if c ∈ s then ((bef c s).length:Int) else -1
  | []=>by simp [Lib.indexByte]
  | b :: s=>by
    rw [Lib.indexByte,bef_cons,idx_eq c s]
    by_cases e:b = c
    · simp [e]
    · have e':¬ c = b:=fun h=>e h.symm
      by_cases h:c ∈ s
      · have h0:¬ (((bef c s).length:Int) = -1):=by omega
        simp [e,e',h,h0]
      · simp [e,e',h]
theorem drop_pre {α:Type} {a b:List α} {c:α}:(a ++ c :: b).drop (a.length + 1) = b:=by rw [← List.drop_drop,List.drop_left' rfl];rfl
theorem take_bef {c:UInt8} {s:List UInt8} (h:c ∈ s):s.take (bef c s).length = bef c s ∧ s.drop ((bef c s).length + 1) = aft c s:=by
  have e:=bef_aft h
  refine ⟨?_,?_⟩
  · have:=congrArg (List.take (bef c s).length) e
    rwa [List.take_left'  rfl] at this
  · have:=congrArg (List.drop ((bef c s).length + 1)) e
    exact this.trans drop_pre
theorem Index_1a5_eq (s:List UInt8):stringslite_Index_1a5 s = some (Lib.indexByte s 32):=by
  unfold stringslite_Index_1a5
  rw [boolO]
  by_cases h:s = [32]
  · subst h;rfl
  · have:(([32]:List UInt8) == s) = false:=by simp;exact fun e=>h e.symm
    rw [this];rfl
theorem Index_cc6_eq (s:List UInt8):stringslite_Index_cc6 s = some (Lib.indexByte s 10):=by
  unfold stringslite_Index_cc6
  rw [boolO]
  by_cases h:s = [10]
  · subst h;rfl
  · have:(([10]:List UInt8) == s) = false:=by simp;exact fun e=>h e.symm
    rw [this];rfl
def cutS (c:UInt8) (s:List UInt8):List UInt8 × List UInt8 × Bool:=if c ∈ s then (bef c s,aft c s,true) else (s,[],false)
theorem cut_core {c:UInt8} {s:List UInt8} {o:Option Int} (ho:o = some (Lib.indexByte s c)) (hl:s.length < 4611686018427387904) :
    (o.bind fun x1=>(bif decide (x1 ≥ 0) then some true else some false:Option (Bool)).bind fun x2=>
      bif x2 then
        req (0 ≤ (0:Int) ∧ (0:Int) ≤ x1 ∧ x1 ≤ ((s.length:Nat):Int)) <|
        req (0 ≤ (IntKind.i64.wrap (x1 + 1)) ∧ (IntKind.i64.wrap (x1 + 1)) ≤ ((s.length:Nat):Int) ∧ ((s.length:Nat):Int) ≤ ((s.length:Nat):Int)) <|
        some ((sub s 0 x1.toNat),(sub s ((IntKind.i64.wrap (x1 + 1)).toNat) s.length),true)
      else some (s,[],false)) = some (cutS c s):=by
  subst ho
  rw [Option.bind_some,idx_eq,boolO,Option.bind_some]
  unfold cutS
  by_cases h:c ∈ s
  · have hl2:=lens h
    have e1:IntKind.i64.wrap (((bef c s).length:Int) + 1) = (((bef c s).length + 1:Nat):Int):=by rw [w64id (by omega)];omega
    simp only [if_pos h]
    rw [dec_t (by omega)]
    simp only [cond_true]
    rw [req_pos (by omega),e1,req_pos (by omega)]
    obtain ⟨h1,h2⟩:=take_bef h
    simp only [Int.toNat_natCast,sub,Nat.sub_zero,List.drop_zero,h1,h2]
    rw [List.take_of_length_le (by omega)]
  · simp only [if_neg h];rfl
theorem Cut_1a5_eq {s:List UInt8} (hl:s.length < 4611686018427387904):strings_Cut_1a5 s = some (cutS 32 s):=by
  unfold strings_Cut_1a5 stringslite_Cut_1a5
  rw [cut_core (Index_1a5_eq s) hl];rfl
theorem Cut_cc6_eq {s:List UInt8} (hl:s.length < 4611686018427387904):strings_Cut_cc6 s = some (cutS 10 s):=by
  unfold strings_Cut_cc6 stringslite_Cut_cc6
  rw [cut_core (Index_cc6_eq s) hl];rfl
def splN (c:UInt8):Nat → List UInt8 → List (List UInt8)
  | 0,s=>[s]
  | k + 1,s=>if c ∈ s then bef c s :: splN c k (aft c s) else [s]
theorem splN_min (c:UInt8):∀ (k:Nat) (s:List UInt8),splN c k s = splN c (min k s.length) s
  | 0,s=>by simp
  | k + 1,s=>by
    by_cases h:c ∈ s
    · have hl:=lens h
      rw [show min (k + 1) s.length = min k (s.length - 1) + 1 from by omega]
      simp only [splN,if_pos h]
      congr 1
      rw [splN_min c k,splN_min c (min k (s.length - 1))]
      congr 1
      omega
    · have:∀ j,splN c j s = [s]:=fun j=>by cases j <;> simp [splN,h]
      rw [this,this]
theorem splN_len (c:UInt8):∀ (k:Nat) (s:List UInt8),1 ≤ (splN c k s).length ∧ (splN c k s).length ≤ k + 1
  | 0,s=>by simp [splN]
  | k + 1,s=>by
    simp only [splN]
    split
    · have:=splN_len c k (aft c s);simp;omega
    · simp
theorem splN_le (c:UInt8):∀ (k:Nat) (s w:List UInt8),w ∈ splN c k s → w.length ≤ s.length
  | 0,s,w,h=>by simp [splN] at h;subst h;exact Nat.le_refl _
  | k + 1,s,w,h=>by
    simp only [splN] at h
    split at h
    · rename_i hc
      have:=lens hc
      rcases List.mem_cons.1 h with rfl | h
      · omega
      · have:=splN_le c k _ w h;omega
    · simp at h;subst h;exact Nat.le_refl _
theorem split_loop {s0:List UInt8} {n:Int} {N:Nat} (hN:(if (IntKind.i64.wrap ((s0.length:Int) + 1)) < n then (IntKind.i64.wrap ((s0.length:Int) + 1)) else n) = (N:Int)) (hN1:1 ≤ N) (hN2:N < 4611686018427387904) :
    ∀ (k i:Nat) (cur:List UInt8) (a:List (List UInt8)),i + k + 1 = N → a.length = N → cur.length < 4611686018427387904 →
      ∃ (cur':List UInt8) (i':Nat) (a':List (List UInt8)),loopO (strings_genSplit_92d_loop1 s0 n 0) (cur,(i:Int),a) = some (cur',(i':Int),a') ∧ i' < N ∧ a'.length = N ∧ a'.take i' ++ [cur'] = a.take i ++ splN 32 k cur:=by
  intro k
  induction k with
  | zero=>
    intro i cur a hi ha hc
    refine ⟨cur,i,a,?_,by omega,ha,rfl⟩
    rw [loopO_eq]
    unfold strings_genSplit_92d_loop1
    simp only [hN,boolO,Option.bind_some]
    rw [w64id (by omega),dec_f (by omega)]
    rfl
  | succ k ih=>
    intro i cur a hi ha hc
    by_cases h:(32:UInt8) ∈ cur
    · have hl:=lens h
      have h1:cur.take (bef 32 cur).length = bef 32 cur:=(take_bef h).1
      have h2:cur.drop ((bef 32 cur).length + 1) = aft 32 cur:=(take_bef h).2
      obtain ⟨cur',i',a',e1,e2,e3,e4⟩:=ih (i + 1) (aft 32 cur) (a.set i (bef 32 cur)) (by omega) (by simp [ha]) (by omega)
      refine ⟨cur',i',a',?_,e2,e3,?_⟩
      · rw [loopO_eq,← e1]
        have hst:strings_genSplit_92d_loop1 s0 n 0 (cur,(i:Int),a) = some (.inr (aft 32 cur,((i + 1:Nat):Int),a.set i (bef 32 cur))):=by
          unfold strings_genSplit_92d_loop1 strings_Index_1a5
          simp only [hN,boolO,Option.bind_some,Index_1a5_eq,idx_eq,if_pos h]
          rw [w64id (by omega),dec_t (by omega),dec_f (by omega)]
          simp only [cond_true,cond_false]
          rw [w64id (by omega:-9223372036854775808 ≤ ((bef 32 cur).length:Int) + 0 ∧ _),req_pos (by omega),req_pos (by omega),show ((i:Int)).toNat = i from by omega,List.getElem?_eq_getElem (by omega),Option.bind_some,
            w64id (by omega),req_pos (by omega),w64id (by omega)]
          simp only [show ((bef 32 cur).length:Int) + 1 = (((bef 32 cur).length + 1:Nat):Int) from by omega,show ((bef 32 cur).length:Int) + 0 = (((bef 32 cur).length:Nat):Int) from by omega,Int.toNat_natCast,sub,Nat.sub_zero,List.drop_zero,h1,h2]
          rw [List.take_of_length_le (by omega)]
          rfl
        rw [hst]
      · rw [e4]
        simp only [splN,if_pos h]
        rw [List.take_add_one,List.take_set_of_le (by omega)]
        simp [List.getElem?_set,ha,show i < N by omega]
    · refine ⟨cur,i,a,?_,by omega,ha,by simp [splN,h]⟩
      rw [loopO_eq]
      unfold strings_genSplit_92d_loop1 strings_Index_1a5
      simp only [hN,boolO,Option.bind_some,Index_1a5_eq,idx_eq,if_neg h]
      rw [w64id (by omega),dec_t (by omega),dec_t (by omega)]
      rfl
theorem SplitN_eq {s:List UInt8} {n:Nat} (hn:1 ≤ n) (hn2:n < 1000) (hl:s.length < 1000000):strings_SplitN_02b s (n:Int) = some (splN 32 (n - 1) s):=by
  unfold strings_SplitN_02b strings_genSplit_92d
  obtain ⟨N,hN,hNm⟩:∃ N:Nat,(if (IntKind.i64.wrap ((s.length:Int) + 1)) < (n:Int) then (IntKind.i64.wrap ((s.length:Int) + 1)) else (n:Int)) = (N:Int) ∧ N = min n (s.length + 1):=by
    refine ⟨min n (s.length + 1),?_,rfl⟩
    rw [w64id (by omega)]
    split <;> omega
  have e0:((n:Int) == 0) = false:=by simp;omega
  simp only [boolO,e0,Option.bind_some,cond_false,hN]
  rw [dec_f (by omega)]
  simp only [cond_false]
  rw [req_pos (by unfold maxBy;omega)]
  obtain ⟨cur',i',a',e1,e2,e3,e4⟩:=split_loop hN (by omega) (by omega) (N - 1) 0 s (List.replicate (N:Int).toNat []) (by omega) (by simp) (by omega)
  rw [show ((0:Nat):Int) = 0 from rfl] at e1
  rw [e1,Option.bind_some]
  simp only
  rw [req_pos (by omega),show ((i':Int)).toNat = i' from by omega,List.getElem?_eq_getElem (by omega),Option.bind_some,w64id (by omega),show (i':Int) + 1 = ((i' + 1:Nat):Int) from by omega,req_pos (by omega),Int.toNat_natCast,
    req_pos (by simp;omega)]
  simp only [Option.bind_some,List.drop_zero,Option.some.injEq]
  rw [List.take_add_one,List.take_set_of_le (by omega),List.getElem?_set]
  simp [e3,e2]
  rw [e4]
  simp
  rw [splN_min 32 (n - 1) s,show min (n - 1) s.length = N - 1 from by omega]
end Go.SH
namespace Go.SH
def isD (c:UInt8):Bool:=decide (48 ≤ c.toNat) && decide (c.toNat ≤ 57)
def numV (s:List UInt8):Nat:=s.foldl (fun n c=>10 * n + (c.toNat - 48)) 0
theorem numV_snoc (s:List UInt8) (c:UInt8):numV (s ++ [c]) = 10 * numV s + (c.toNat - 48):=by simp [numV]
theorem numV_take {s:List UInt8} {i:Nat} (h:i < s.length):numV (s.take (i + 1)) = 10 * numV (s.take i) + (s[i].toNat - 48):=by
  rw [List.take_add_one,List.getElem?_eq_getElem h]
  exact numV_snoc _ _
theorem numV_lt {s:List UInt8} (h:s.all isD = true):∀ i,i ≤ s.length → numV (s.take i) < 10 ^ i
  | 0,_=>by simp [numV]
  | i + 1,hi=>by
    rw [numV_take (by omega)]
    have:=numV_lt h i (by omega)
    have hd:=List.all_eq_true.1 h s[i] (List.getElem_mem _)
    simp [isD] at hd
    rw [Nat.pow_succ]
    omega
theorem numV_lt2 {s:List UInt8}:∀ i,i ≤ s.length → (∀ j (h:j < s.length),j < i → isD s[j] = true) → numV (s.take i) < 10 ^ i
  | 0,_,_=>by simp [numV]
  | i + 1,hi,h=>by
    rw [numV_take (by omega)]
    have:=numV_lt2 i (by omega) fun j hj hji=>h j hj (by omega)
    have hd:=h i (by omega) (by omega)
    simp [isD] at hd
    rw [Nat.pow_succ]
    omega
theorem u8v {n:Int} (h:0 ≤ n ∧ n < 256):((UInt8.ofInt n).toNat:Int) = n:=by
  simp [UInt8.ofInt]
  omega
theorem step1 {v d:Nat} (hv:v < 10000000000) (hd:d ≤ 9):IntKind.i64.wrap (IntKind.i64.wrap ((10:Int) * (v:Int)) + IntKind.i64.wrap (d:Int)) = ((10 * v + d:Nat):Int):=by rw [w64,w64,w64];omega
theorem u8_sub {c:UInt8} (h:48 ≤ c.toNat):((UInt8.ofInt (IntKind.u8.wrap ((c.toNat:Int) - 48))).toNat:Int) = ((c.toNat - 48:Nat):Int):=by
  have h1:=c.toNat_lt
  rw [show IntKind.u8.wrap ((c.toNat:Int) - 48) = (c.toNat:Int) - 48 from by simp [IntKind.wrap,IntKind.signed,IntKind.bits];omega,u8v (by omega)]
  omega
theorem pow10 {i:Nat} (h:i ≤ 10):10 ^ i ≤ 10000000000:=Nat.pow_le_pow_right (n:=10) (by omega) h
theorem number_loop {s:List UInt8} (hl:s.length ≤ 10):∀ (m i:Nat),i + m = s.length → (∀ j (h:j < s.length),j < i → isD s[j] = true) →
    loopO (script_number_loop1 s) ((numV (s.take i):Int),(i:Int)) = some (if s.all isD = true then .inr (numV s:Int) else .inl (some 4)):=by
  intro m
  induction m with
  | zero=>
    intro i hi hd
    have hall:s.all isD = true:=List.all_eq_true.2 fun c hc=>by obtain ⟨j,hj,rfl⟩:=List.mem_iff_getElem.1 hc;exact hd j hj (by omega)
    rw [loopO_eq]
    unfold script_number_loop1
    simp only [boolO,Option.bind_some]
    rw [dec_f (by omega)]
    rw [if_pos hall,List.take_of_length_le (by omega)]
    rfl
  | succ m ih=>
    intro i hi hd
    have hlt:i < s.length:=by omega
    have hb:=numV_lt2 i (by omega) hd
    have hp:=pow10 (i:=i) (by omega)
    have hc:=s[i].toNat_lt
    rw [loopO_eq]
    by_cases h:isD s[i] = true
    · have h':=h
      simp [isD] at h'
      have hst:script_number_loop1 s ((numV (s.take i):Int),(i:Int)) = some (.inr ((numV (s.take (i + 1)):Int),((i + 1:Nat):Int))):=by
        unfold script_number_loop1
        simp only [boolO,Option.bind_some,getI_nat,List.getElem?_eq_getElem hlt]
        rw [dec_t (by omega),dec_f (by omega),dec_f (by omega)]
        simp only [cond_true,cond_false,Option.bind_some]
        rw [u8_sub h'.1,numV_take hlt,step1 (by omega) (by omega),w64id (by omega)]
        rfl
      rw [hst]
      exact ih (i + 1) (by omega) fun j hj hji=>by
        by_cases e:j = i
        · subst e;exact h
        · exact hd j hj (by omega)
    · have hall:¬ s.all isD = true:=fun hh=>h (List.all_eq_true.1 hh _ (List.getElem_mem _))
      rw [if_neg hall]
      unfold script_number_loop1
      simp only [boolO,Option.bind_some,getI_nat,List.getElem?_eq_getElem hlt]
      rw [dec_t (by omega)]
      simp [isD] at h
      by_cases h48:s[i].toNat < 48
      · rw [dec_t (by omega)];rfl
      · rw [dec_f (by omega),dec_t (by omega)];rfl
open Lib in
theorem dd_small {u:Nat} (h:u < 10):decDigits u = [UInt8.ofNat (48 + u)]:=by rw [decDigits,dif_pos h]
open Lib in
theorem dd_big {u:Nat} (h:¬ u < 10):decDigits u = decDigits (u / 10) ++ [UInt8.ofNat (48 + u % 10)]:=by rw [decDigits,dif_neg h]
theorem dig_toNat {d:Nat} (h:d < 10):(UInt8.ofNat (48 + d)).toNat = 48 + d:=by simp;omega
theorem dig_int {d:Nat} (h:d < 10):UInt8.ofInt (IntKind.u8.wrap (IntKind.i64.wrap ((48:Int) + (d:Int)))) = UInt8.ofNat (48 + d):=by
  rw [w64id (by omega),show IntKind.u8.wrap ((48:Int) + (d:Int)) = ((48 + d:Nat):Int) from by simp [IntKind.wrap,IntKind.signed,IntKind.bits];omega]
  apply UInt8.toNat_inj.1
  have:=u8v (n:=((48 + d:Nat):Int)) (by omega)
  rw [dig_toNat h]
  omega
open Lib in
theorem Digits_loop:∀ (u:Nat) (acc:List UInt8),u < 9223372036854775807 → acc.length < 4611686018427387904 - u → ∃ (q:Nat) (acc':List UInt8),loopO orielref12_Digits_loop1 ((u:Int),acc) = some ((q:Int),acc') ∧ q < 10 ∧ acc'.length < 4611686018427387904 ∧ UInt8.ofNat (48 + q) :: acc' = decDigits u ++ acc:=by
  intro u
  induction u using Nat.strongRecOn with
  | _ u ih=>
    intro acc hu ha
    by_cases h:u < 10
    · have hst:orielref12_Digits_loop1 ((u:Int),acc) = some (.inl ((u:Int),acc)):=by
        unfold orielref12_Digits_loop1
        simp only [boolO,Option.bind_some]
        rw [dec_f (by omega)];rfl
      rw [loopO_eq,hst]
      exact ⟨u,acc,rfl,h,by omega,by rw [dd_small h];rfl⟩
    · have hst:orielref12_Digits_loop1 ((u:Int),acc) = some (.inr (((u / 10:Nat):Int),[UInt8.ofNat (48 + u % 10)] ++ acc)):=by
        unfold orielref12_Digits_loop1
        simp only [boolO,Option.bind_some]
        rw [dec_t (by omega)]
        simp only [cond_true]
        rw [show Int.tmod (u:Int) 10 = ((u % 10:Nat):Int) from by rw [Int.tmod_eq_emod_of_nonneg (by omega)];omega,show Int.tdiv (u:Int) 10 = ((u / 10:Nat):Int) from by rw [Int.tdiv_eq_ediv_of_nonneg (by omega)];omega,dig_int (by omega),w64id (by omega),req_pos (by simp;omega)]
      rw [loopO_eq,hst]
      obtain ⟨q,acc',e1,e2,e3,e4⟩:=ih (u / 10) (by omega) ([UInt8.ofNat (48 + u % 10)] ++ acc) (by omega) (by simp;omega)
      exact ⟨q,acc',e1,e2,e3,by rw [e4,dd_big h];simp⟩
theorem Digits_eq {n:Int} (h0:0 ≤ n) (h1:n < 2305843009213693952):orielref12_Digits n = some (Lib.decDigits n.toNat):=by
  unfold orielref12_Digits
  obtain ⟨u,rfl⟩:∃ u:Nat,n = (u:Int):=⟨n.toNat,by omega⟩
  obtain ⟨q,acc',e1,e2,e3,e4⟩:=Digits_loop u [] (by omega) (by simp;omega)
  rw [e1,Option.bind_some]
  simp only
  rw [dig_int e2,req_pos (by simp;omega)]
  simp at e4 ⊢
  exact e4
end Go.SH
namespace Go.SH
open Lib (decDigits)
theorem dd_ne (u:Nat):decDigits u ≠ []:=by
  by_cases h:u < 10
  · rw [dd_small h];simp
  · rw [dd_big h];simp
theorem numV_dd (u:Nat):numV (decDigits u) = u:=by
  induction u using Nat.strongRecOn with
  | _ u ih=>
    by_cases h:u < 10
    · rw [dd_small h]
      show 10 * 0 + ((UInt8.ofNat (48 + u)).toNat - 48) = u
      rw [dig_toNat h];omega
    · rw [dd_big h,numV_snoc,ih (u / 10) (by omega),dig_toNat (by omega)];omega
theorem dd_all (u:Nat):(decDigits u).all isD = true:=by
  induction u using Nat.strongRecOn with
  | _ u ih=>
    by_cases h:u < 10
    · rw [dd_small h];simp only [List.all_cons,List.all_nil,isD,dig_toNat h];simp;omega
    · rw [dd_big h,List.all_append,ih (u / 10) (by omega)];simp only [List.all_cons,List.all_nil,isD,dig_toNat (show u % 10 < 10 by omega)];simp;omega
theorem head_app {α:Type} {a b:List α} (h:a ≠ []):(a ++ b).head? = a.head?:=by cases a <;> simp at h ⊢
theorem dd_head {u:Nat} (h1:1 ≤ u):(decDigits u).head? ≠ some 48:=by
  induction u using Nat.strongRecOn with
  | _ u ih=>
    by_cases h:u < 10
    · rw [dd_small h]
      simp only [List.head?_cons,ne_eq,Option.some.injEq]
      intro e
      have:=congrArg UInt8.toNat e
      rw [dig_toNat h] at this
      simp at this;omega
    · rw [dd_big h,head_app (dd_ne _)];exact ih (u / 10) (by omega) (by omega)
def lead0 (s:List UInt8):Bool:=decide (1 < s.length) && (s.head? == some 48)
theorem dd_lead (u:Nat):lead0 (decDigits u) = false:=by
  by_cases h:u < 10
  · rw [dd_small h];rfl
  · have:=dd_head (u:=u) (by omega)
    simp [lead0];intro _;simpa using this
theorem canon:∀ (n:Nat) (s:List UInt8),s.length = n → s.all isD = true → s ≠ [] → lead0 s = false → decDigits (numV s) = s:=by
  intro n
  induction n with
  | zero=>intro s h _ h2;exact absurd (List.eq_nil_of_length_eq_zero h) h2
  | succ n ih=>
    intro s hl hD hne h0
    have es:s = s.dropLast ++ [s.getLast hne]:=(List.dropLast_concat_getLast hne).symm
    have hc:isD (s.getLast hne) = true:=List.all_eq_true.1 hD _ (List.getLast_mem hne)
    simp [isD] at hc
    by_cases h1:n = 0
    · subst h1
      match s,hl with
      | [c],_=>
        simp at hc
        show decDigits (10 * 0 + (c.toNat - 48)) = [c]
        rw [dd_small (by omega)]
        congr 1
        apply UInt8.toNat_inj.1
        rw [dig_toNat (by omega)];omega
    · have hdl:s.dropLast.length = n:=by simp [hl]
      have hdn:s.dropLast ≠ []:=by intro e;rw [e] at hdl;simp at hdl;omega
      have hh:s.head? = s.dropLast.head?:=by conv=>lhs;rw [es]
                                             exact head_app hdn
      have hh0:s.dropLast.head? ≠ some 48:=by
        rw [← hh]
        simp [lead0] at h0
        exact h0 (by omega)
      have hD2:s.dropLast.all isD = true:=List.all_eq_true.2 fun c hcm=>List.all_eq_true.1 hD c ((List.dropLast_sublist s).subset hcm)
      have hi:=ih s.dropLast hdl hD2 hdn (by simp [lead0,hh0])
      have hv:1 ≤ numV s.dropLast:=by
        rcases Nat.eq_zero_or_pos (numV s.dropLast) with h | h
        · rw [h,dd_small (by omega)] at hi
          rw [← hi] at hh0
          exact absurd rfl hh0
        · exact h
      have e2:numV s = 10 * numV s.dropLast + ((s.getLast hne).toNat - 48):=by conv=>lhs;rw [es]
                                                                               exact numV_snoc _ _
      rw [e2,dd_big (by omega),show (10 * numV s.dropLast + ((s.getLast hne).toNat - 48)) / 10 = numV s.dropLast from by omega,hi]
      conv=>rhs;rw [es]
      congr 2
      apply UInt8.toNat_inj.1
      rw [dig_toNat (by omega)];omega
/-- What a word says that is a number. -/
def numOK (w:List UInt8):Bool:=!w.isEmpty && (decide (w.length ≤ 10) && (!lead0 w && w.all isD))
def numS (w:List UInt8) (lo hi:Int):Option Int:=if numOK w = true ∧ lo ≤ (numV w:Int) ∧ (numV w:Int) ≤ hi then some (numV w:Int) else none
theorem numS_some {w:List UInt8} {lo hi v:Int} (h:numS w lo hi = some v):lo ≤ v ∧ v ≤ hi ∧ 0 ≤ v ∧ v < 10000000000 ∧ decDigits v.toNat = w ∧ w.length ≤ 10:=by
  unfold numS at h
  split at h
  · rename_i hc
    simp at h;subst h
    obtain ⟨hk,h1,h2⟩:=hc
    simp [numOK] at hk
    have hlt:=numV_lt (s:=w) (List.all_eq_true.2 hk.2.2.2) w.length (Nat.le_refl _)
    rw [List.take_of_length_le (Nat.le_refl _)] at hlt
    have:=pow10 (i:=w.length) hk.2.1
    exact ⟨h1,h2,by omega,by omega,by simpa using canon w.length w rfl (List.all_eq_true.2 hk.2.2.2) hk.1 hk.2.2.1,hk.2.1⟩
  · simp at h
theorem nd_le {u k:Nat} (h:u < 10 ^ k) (hk:1 ≤ k):(decDigits u).length ≤ k:=by
  induction k generalizing u with
  | zero=>omega
  | succ k ih=>
    by_cases h1:u < 10
    · rw [dd_small h1];simp
    · rw [dd_big h1]
      simp only [List.length_append,List.length_cons,List.length_nil]
      have hk2:1 ≤ k:=by
        rcases Nat.eq_zero_or_pos k with h0 | h0
        · subst h0;simp at h;omega
        · exact h0
      have:=ih (u:=u / 10) (by rw [Nat.pow_succ] at h;omega) hk2
      omega
theorem numS_dd {v lo hi:Int} (h1:lo ≤ v) (h2:v ≤ hi) (h0:0 ≤ v) (hb:v < 10000000000):numS (decDigits v.toNat) lo hi = some v:=by
  have e:((numV (decDigits v.toNat):Nat):Int) = v:=by rw [numV_dd];omega
  have hk:numOK (decDigits v.toNat) = true:=by
    have:=nd_le (u:=v.toNat) (k:=10) (by omega) (by omega)
    simp only [numOK,dd_lead,dd_all,Bool.not_false,Bool.and_true,Bool.and_eq_true,decide_eq_true_eq]
    exact ⟨by simp [dd_ne],this⟩
  unfold numS
  rw [e,if_pos ⟨hk,h1,h2⟩]
def kLo (k:UInt8):Int:=if k = 73 ∨ k = 87 ∨ k = 78 ∨ k = 88 then 1 else 0
def kHi (k:UInt8):Int:=if k = 73 then 8 else if k = 87 then 1000 else if k = 78 then 10000 else if k = 80 then 1073741824 else if k = 88 then 255 else 65535
theorem bounds_fin:∀ i:_root_.Fin 256,script_bounds (UInt8.ofNat i.val) = some (kLo (UInt8.ofNat i.val),kHi (UInt8.ofNat i.val)):=by decide +kernel
theorem u8_all {P:UInt8 → Prop} (h:∀ i:_root_.Fin 256,P (UInt8.ofNat i.val)) (b:UInt8):P b:=by
  have:=h ⟨b.toNat,b.toNat_lt⟩
  simpa using this
theorem bounds_eq (k:UInt8):script_bounds k = some (kLo k,kHi k):=u8_all (P:=fun k=>script_bounds k = some (kLo k,kHi k)) bounds_fin k
theorem number_eq {w:List UInt8} {k:UInt8}:script_number w k = some (match numS w (kLo k) (kHi k) with
    | some v=>((v,[]),none)
    | none=>((0,[]),some 4)):=by
  unfold script_number
  rw [bounds_eq,Option.bind_some]
  cases w with
  | nil=>rfl
  | cons c r=>
    have e0:((c :: r:List UInt8) == []) = false:=rfl
    rw [e0]
    simp only [cond_false]
    by_cases h10:(c :: r).length ≤ 10
    · rw [dec_f (by omega:¬ (((c :: r).length:Int) > 10))]
      simp only [cond_false,show (0:Int) = ((0:Nat):Int) from rfl,getI_nat,List.getElem?_cons_zero,Option.bind_some]
      have hlead:(bif decide (((c :: r).length:Int) > 1) then bif ((c.toNat:Int) == 48) then some true else some false else some false:Option Bool) = some (lead0 (c :: r)):=by
        unfold lead0
        by_cases h1:1 < (c :: r).length
        · rw [dec_t (by omega:((c :: r).length:Int) > 1),dec_t h1]
          simp only [cond_true,boolO,Bool.true_and,List.head?_cons]
          congr 1
          rw [Bool.eq_iff_iff]
          simp only [beq_iff_eq,Option.some.injEq]
          constructor
          · intro h;apply UInt8.toNat_inj.1;show c.toNat = 48;omega
          · intro h;subst h;rfl
        · rw [dec_f (by omega:¬ ((c :: r).length:Int) > 1),dec_f h1];rfl
      simp only [show ((0:Nat):Int) = 0 from rfl] at hlead ⊢
      rw [hlead,Option.bind_some]
      cases hl:lead0 (c :: r) with
      | true=>simp [numS,numOK,hl]
      | false=>
        simp only [cond_false]
        have hloop:=number_loop h10 (c :: r).length 0 (by omega) (by omega)
        rw [show ((numV ((c :: r).take 0):Nat):Int) = 0 from rfl,show ((0:Nat):Int) = 0 from rfl] at hloop
        rw [hloop,Option.bind_some]
        by_cases hD:(c :: r).all isD = true
        · rw [if_pos hD]
          simp only
          have hk:numOK (c :: r) = true:=by simp only [numOK,hl,hD];simp;simpa using h10
          unfold numS
          by_cases h1:(numV (c :: r):Int) < kLo k
          · rw [dec_t h1,if_neg (by omega)];rfl
          · rw [dec_f h1]
            by_cases h2:(numV (c :: r):Int) > kHi k
            · rw [dec_t h2,if_neg (by omega)];rfl
            · rw [dec_f h2,if_pos ⟨hk,by omega,by omega⟩];rfl
        · rw [if_neg hD]
          have hk:¬ numOK (c :: r) = true:=by simp only [numOK,Bool.and_eq_true];exact fun h=>hD h.2.2.2
          simp [numS,hk]
    · rw [dec_t (by omega:(((c :: r).length:Int) > 10))]
      have hk:¬ numOK (c :: r) = true:=by simp only [numOK,Bool.and_eq_true,decide_eq_true_eq];exact fun h=>h10 h.2.1
      simp [numS,hk]
end Go.SH
namespace Go.SH
def plainB (b:UInt8):Bool:=decide (32 ≤ b.toNat) && (decide (b.toNat ≤ 126) && (!(b == 34) && !(b == 92)))
theorem plain_fin:∀ i:_root_.Fin 256,script_plain (UInt8.ofNat i.val) = some (plainB (UInt8.ofNat i.val)):=by decide +kernel
theorem rplain_fin:∀ i:_root_.Fin 256,orielref34_plain (UInt8.ofNat i.val) = some (plainB (UInt8.ofNat i.val)):=by decide +kernel
theorem plain_eq (b:UInt8):script_plain b = some (plainB b):=u8_all (P:=fun b=>script_plain b = some (plainB b)) plain_fin b
theorem rplain_eq (b:UInt8):orielref34_plain b = some (plainB b):=u8_all (P:=fun b=>orielref34_plain b = some (plainB b)) rplain_fin b
def hexI (c:UInt8):Int:=Lib.indexByte lit_4032a c
def hxI (x y:Int):UInt8:=UInt8.ofInt (IntKind.u8.wrap (IntKind.i64.wrap ((IntKind.i64.wrap ((16:Int) * x)) + y)))
def badE (x y:UInt8):Bool:=decide (hexI x < 0) || (decide (hexI y < 0) || plainB (hxI (hexI x) (hexI y)))
/-- What stands between quotes. -/
def unq (l:List UInt8):Option (List UInt8):=match l with
  | []=>some []
  | b :: r=>bif plainB b then (unq r).map (b :: ·) else
      bif b == 92 then match r with
        | x :: y :: r'=>bif badE x y then none else (unq r').map (hxI (hexI x) (hexI y) :: ·)
        | _=>none
      else none
termination_by l.length
theorem unq_nil:unq [] = some []:=by rw [unq.eq_def]
theorem unq_plain {b:UInt8} {r:List UInt8} (h:plainB b = true):unq (b :: r) = (unq r).map (b :: ·):=by rw [unq.eq_def];simp only [h,cond_true]
theorem unq_bad {b:UInt8} {r:List UInt8} (h:plainB b = false) (h2:¬ b = 92):unq (b :: r) = none:=by
  rw [unq.eq_def];simp only [h,cond_false]
  rw [show (b == 92) = false from beq_false_of_ne h2];rfl
theorem unq_esc {x y:UInt8} {r:List UInt8}:unq (92 :: x :: y :: r) = bif badE x y then none else (unq r).map (hxI (hexI x) (hexI y) :: ·):=by rw [unq.eq_def];rfl
theorem unq_short {r:List UInt8} (h:r.length ≤ 1):unq (92 :: r) = none:=by
  rw [unq.eq_def]
  match r,h with
  | [],_=>rfl
  | [_],_=>rfl
def inner (w:List UInt8):List UInt8:=(w.drop 1).take (w.length - 2)
theorem inner_len (w:List UInt8):(inner w).length = w.length - 2:=by simp [inner];omega
theorem beq34 (b:UInt8):((b.toNat:Int) != 34) = !(b == 34):=by
  by_cases h:b = 34
  · subst h;rfl
  · have h1:¬ (b.toNat:Int) = 34:=fun e=>h (UInt8.toNat_inj.1 (by show b.toNat = 34;omega))
    have e1:((b.toNat:Int) != 34) = true:=bne_iff_ne.2 h1
    have e2:(b == 34) = false:=beq_false_of_ne h
    rw [e1,e2];rfl
theorem beq92 (b:UInt8):((b.toNat:Int) != 92) = !(b == 92):=by
  by_cases h:b = 92
  · subst h;rfl
  · have h1:¬ (b.toNat:Int) = 92:=fun e=>h (UInt8.toNat_inj.1 (by show b.toNat = 92;omega))
    have e1:((b.toNat:Int) != 92) = true:=bne_iff_ne.2 h1
    have e2:(b == 92) = false:=beq_false_of_ne h
    rw [e1,e2];rfl
theorem text_loop {w:List UInt8} (hw:2 ≤ w.length) (hl:w.length < 1000000):∀ (m i:Nat) (out:List UInt8),i + m = (inner w).length → out.length ≤ i →
    loopO (script_text_loop1 w) ((i:Int),out) = some (match unq ((inner w).drop i) with
      | some r=>.inr (out ++ r)
      | none=>.inl (some 0)):=by
  have hsub:sub w 1 ((IntKind.i64.wrap ((w.length:Int) - 1)).toNat) = inner w:=by
    rw [w64id (by omega)]
    simp only [sub,inner]
    congr 1;omega
  have hil:=inner_len w
  intro m
  induction m using Nat.strongRecOn with
  | _ m ih=>
    intro i out hi ho
    rw [loopO_eq]
    by_cases h0:m = 0
    · subst h0
      unfold script_text_loop1
      simp only [hsub,boolO,Option.bind_some]
      rw [dec_f (by omega),List.drop_of_length_le (by omega),unq_nil]
      simp [req_pos]
    · have hlt:i < (inner w).length:=by omega
      rw [List.drop_eq_getElem_cons hlt]
      generalize hb:(inner w)[i] = b
      by_cases hp:plainB b = true
      · -- stands for itself
        have hst:script_text_loop1 w ((i:Int),out) = some (.inr (((i + 1:Nat):Int),out ++ [b])):=by
          unfold script_text_loop1
          simp only [hsub,boolO,Option.bind_some,getI_nat,List.getElem?_eq_getElem hlt,hb,plain_eq,hp]
          rw [dec_t (by omega)]
          simp only [cond_true,Option.bind_some,Bool.not_true,cond_false]
          rw [req_pos trivial,req_pos (by simp [maxBy];omega),req_pos trivial,w64id (by omega)]
          rfl
        rw [hst,unq_plain hp]
        simp only
        rw [ih (m - 1) (by omega) (i + 1) (out ++ [b]) (by omega) (by simp;omega)]
        cases unq ((inner w).drop (i + 1)) <;> simp
      · simp only [Bool.not_eq_true] at hp
        have hpre:∀ (R:Option ((((Option Nat) ⊕ (List UInt8)) ⊕ (Int × List UInt8)))),True:=fun _=>trivial
        by_cases h92:b = 92
        · subst h92
          by_cases h2:i + 2 < (inner w).length
          · have e1:(inner w).drop (i + 1) = (inner w)[i + 1] :: (inner w)[i + 2] :: (inner w).drop (i + 3):=by
              rw [List.drop_eq_getElem_cons (by omega),List.drop_eq_getElem_cons (by omega)]
            rw [e1,unq_esc]
            generalize hx:(inner w)[i + 1] = x
            generalize hy:(inner w)[i + 2] = y
            have hg1:getI (inner w) (IntKind.i64.wrap ((i:Int) + 1)) = some x:=by
              rw [w64id (by omega),show (i:Int) + 1 = ((i + 1:Nat):Int) from by omega,getI_nat,List.getElem?_eq_getElem (by omega),hx]
            have hg2:getI (inner w) (IntKind.i64.wrap ((i:Int) + 2)) = some y:=by
              rw [w64id (by omega),show (i:Int) + 2 = ((i + 2:Nat):Int) from by omega,getI_nat,List.getElem?_eq_getElem (by omega),hy]
            have hcond:(bif decide (hexI x < 0) then some true else bif decide (hexI y < 0) then some true else
                some (plainB (UInt8.ofInt (IntKind.u8.wrap (IntKind.i64.wrap ((IntKind.i64.wrap ((16:Int) * hexI x)) + hexI y))))):Option Bool) = some (badE x y):=by
              unfold badE
              cases decide (hexI x < 0) <;> cases decide (hexI y < 0) <;> rfl
            cases hbad:badE x y with
            | true=>
              have hst:script_text_loop1 w ((i:Int),out) = some (.inl (.inl (some 0))):=by
                unfold script_text_loop1
                simp only [hsub,boolO,Option.bind_some,getI_nat,List.getElem?_eq_getElem hlt,hb,plain_eq,hp]
                rw [dec_t (by omega)]
                simp only [cond_true,Option.bind_some,Bool.not_false,beq92,beq_self_eq_true,Bool.not_true,cond_false]
                rw [dec_f (by rw [w64id (by omega)];omega)]
                simp only [cond_false,boolO,Option.bind_some]
                rw [hg1,hg2]
                simp only [Option.bind_some,idxB,show ∀ c,Lib.indexByte lit_4032a c = hexI c from fun _=>rfl]
                rw [hcond,hbad]
                rfl
              rw [hst];rfl
            | false=>
              have hst:script_text_loop1 w ((i:Int),out) = some (.inr (((i + 3:Nat):Int),out ++ [hxI (hexI x) (hexI y)])):=by
                unfold script_text_loop1
                simp only [hsub,boolO,Option.bind_some,getI_nat,List.getElem?_eq_getElem hlt,hb,plain_eq,hp]
                rw [dec_t (by omega)]
                simp only [cond_true,Option.bind_some,Bool.not_false,beq92,beq_self_eq_true,Bool.not_true,cond_false]
                rw [dec_f (by rw [w64id (by omega)];omega)]
                simp only [cond_false,boolO,Option.bind_some]
                rw [hg1,hg2]
                simp only [Option.bind_some,idxB,show ∀ c,Lib.indexByte lit_4032a c = hexI c from fun _=>rfl]
                rw [hcond,hbad]
                simp only [Option.bind_some,cond_false]
                rw [req_pos trivial,req_pos (by simp [maxBy];omega),req_pos trivial,w64id (by omega:-9223372036854775808 ≤ (i:Int) + 2 ∧ (i:Int) + 2 ≤ 9223372036854775807),w64id (by omega)]
                rfl
              rw [hst]
              simp only [cond_false]
              rw [ih (m - 3) (by omega) (i + 3) _ (by omega) (by simp;omega)]
              cases unq ((inner w).drop (i + 3)) <;> simp
          · rw [unq_short (by simp;omega)]
            have hst:script_text_loop1 w ((i:Int),out) = some (.inl (.inl (some 0))):=by
              unfold script_text_loop1
              simp only [hsub,boolO,Option.bind_some,getI_nat,List.getElem?_eq_getElem hlt,hb,plain_eq,hp]
              rw [dec_t (by omega)]
              simp only [cond_true,Option.bind_some,Bool.not_false,beq92,beq_self_eq_true,Bool.not_true,cond_false]
              rw [dec_t (by rw [w64id (by omega)];omega)]
              rfl
            rw [hst]
        · have e92:(b == 92) = false:=by simpa using h92
          rw [unq_bad hp h92]
          have hst:script_text_loop1 w ((i:Int),out) = some (.inl (.inl (some 0))):=by
            unfold script_text_loop1
            simp only [hsub,boolO,Option.bind_some,getI_nat,List.getElem?_eq_getElem hlt,hb,plain_eq,hp]
            rw [dec_t (by omega)]
            simp only [cond_true,Option.bind_some,Bool.not_false,beq92,e92]
      
          rw [hst]
/-- What a word says that is a text. -/
def qS (w:List UInt8):Option (List UInt8):=if 2 ≤ w.length ∧ w.head? = some 34 ∧ w.getLast? = some 34 then unq (inner w) else none
def textS (w:List UInt8) (lo hi:Int):Option (List UInt8):=match qS w with
  | some o=>bif decide ((o.length:Int) < lo) || decide ((o.length:Int) > hi) then none else some o
  | none=>none
theorem text_eq {w:List UInt8} {lo hi:Int} (hl:w.length < 1000000):script_text w lo hi = some (match textS w lo hi with
    | some o=>((0,o),none)
    | none=>((0,[]),some 0)):=by
  unfold script_text textS qS
  by_cases h2:2 ≤ w.length
  · rw [dec_f (by omega)]
    have hh:getI w 0 = w.head?:=by rw [show (0:Int) = ((0:Nat):Int) from rfl,getI_nat,List.head?_eq_getElem?]
    have hg:getI w (IntKind.i64.wrap ((w.length:Int) - 1)) = w.getLast?:=by rw [w64id (by omega),show (w.length:Int) - 1 = ((w.length - 1:Nat):Int) from by omega,getI_nat,List.getLast?_eq_getElem?]
    obtain ⟨a,ha⟩:∃ a,w.head? = some a:=by cases w with | nil=>simp at h2 | cons a r=>exact ⟨a,rfl⟩
    obtain ⟨z,hz⟩:∃ z,w.getLast? = some z:=⟨w[w.length - 1],by rw [List.getLast?_eq_getElem?,List.getElem?_eq_getElem (by omega)]⟩
    simp only [cond_false,hh,hg,ha,hz,Option.bind_some,beq34]
    by_cases ea:a = 34
    · subst ea
      by_cases ez:z = 34
      · subst ez
        simp only [beq_self_eq_true,Bool.not_true,cond_false,Option.bind_some,h2,true_and,and_self,if_true]
        rw [req_pos (by rw [w64id (by omega)];omega)]
        have:=text_loop h2 hl (inner w).length 0 [] (by omega) (by simp)
        rw [show ((0:Nat):Int) = 0 from rfl,List.drop_zero] at this
        rw [this,Option.bind_some]
        cases hu:unq (inner w) with
        | none=>rfl
        | some r=>
          simp only [List.nil_append]
          cases decide ((r.length:Int) < lo) <;> cases decide ((r.length:Int) > hi) <;> simp [req_pos]
      · have:(z == 34) = false:=by simpa using ez
        simp [this,ez]
    · have:(a == 34) = false:=by simpa using ea
      simp [this,ea]
  · rw [dec_t (by omega)]
    simp [h2]
end Go.SH
namespace Go.SH
def nmJ:List UInt8:=[106,111,105,110]
def nmR:List UInt8:=[114,111,108,101]
def nmL:List UInt8:=[108,101,97,118,101]
def nmA:List UInt8:=[97,115,107]
def nmF:List UInt8:=[102,114,101,101]
def nmO:List UInt8:=[111,117,116]
def nmK:List UInt8:=[107,101,121,115]
def nmS:List UInt8:=[115,105,122,101]
def nmT:List UInt8:=[116,105,99,107]
def nmD:List UInt8:=[100,101,108,105,118,101,114]
def nmP:List UInt8:=[115,112,111,105,108]
def nmM:List UInt8:=[109,111,118,101]
def nmG:List UInt8:=[102,111,114,103,101]
def names:List (List UInt8):=[nmJ,nmR,nmL,nmA,nmF,nmO,nmK,nmS,nmT,nmD,nmP,nmM,nmG]
/-- The words behind a first word. -/
def formS (f:List UInt8):List UInt8:=
  if f = nmJ ∨ f = nmR then [73,82] else if f = nmL ∨ f = nmA ∨ f = nmF then [73] else if f = nmO then [84] else if f = nmK then [73,75] else if f = nmS then [73,87,87] else
  if f = nmT then [78] else if f = nmD then [80] else if f = nmP then [80,88] else if f = nmM then [73,65] else if f = nmG then [73,65,83,84] else []
theorem form_eq (f:List UInt8):script_form f = some (formS f):=by
  unfold script_form formS
  simp only [boolO,Option.bind_some,lit_45a69]
  by_cases h1:f = nmJ
  · subst h1;rfl
  rw [show (f == [106,111,105,110]) = false from beq_false_of_ne h1]
  by_cases h2:f = nmR
  · subst h2;rfl
  rw [show (f == [114,111,108,101]) = false from beq_false_of_ne h2]
  by_cases h3:f = nmL
  · subst h3;rfl
  rw [show (f == [108,101,97,118,101]) = false from beq_false_of_ne h3]
  by_cases h4:f = nmA
  · subst h4;rfl
  rw [show (f == [97,115,107]) = false from beq_false_of_ne h4]
  by_cases h5:f = nmF
  · subst h5;rfl
  rw [show (f == [102,114,101,101]) = false from beq_false_of_ne h5]
  by_cases h6:f = nmO
  · subst h6;rfl
  rw [show (f == [111,117,116]) = false from beq_false_of_ne h6]
  by_cases h7:f = nmK
  · subst h7;rfl
  rw [show (f == [107,101,121,115]) = false from beq_false_of_ne h7]
  by_cases h8:f = nmS
  · subst h8;rfl
  rw [show (f == [115,105,122,101]) = false from beq_false_of_ne h8]
  by_cases h9:f = nmT
  · subst h9;rfl
  rw [show (f == [116,105,99,107]) = false from beq_false_of_ne h9]
  by_cases h10:f = nmD
  · subst h10;rfl
  rw [show (f == [100,101,108,105,118,101,114]) = false from beq_false_of_ne h10]
  by_cases h11:f = nmP
  · subst h11;rfl
  rw [show (f == [115,112,111,105,108]) = false from beq_false_of_ne h11]
  by_cases h12:f = nmM
  · subst h12;rfl
  rw [show (f == [109,111,118,101]) = false from beq_false_of_ne h12]
  by_cases h13:f = nmG
  · subst h13;rfl
  rw [show (f == [102,111,114,103,101]) = false from beq_false_of_ne h13]
  simp [h1,h2,h3,h4,h5,h6,h7,h8,h9,h10,h11,h12,h13]
theorem form_none {f:List UInt8} (h:f ∉ names):formS f = []:=by
  simp only [names,List.mem_cons,List.not_mem_nil,or_false,not_or] at h
  simp [formS,h]
theorem form_some {f:List UInt8} (h:f ∈ names):1 ≤ (formS f).length ∧ (formS f).length ≤ 4:=by
  simp only [names,List.mem_cons,List.not_mem_nil,or_false] at h
  rcases h with h | h | h | h | h | h | h | h | h | h | h | h | h <;> subst h <;> decide
abbrev WdT:=Int × List UInt8
def choiceS (w z o:List UInt8):Option Int:=if w = z then some 0 else if w = o then some 1 else none
def wWatch:List UInt8:=[119,97,116,99,104]
def wWrite:List UInt8:=[119,114,105,116,101]
def wHub:List UInt8:=[104,117,98]
def wView:List UInt8:=[118,105,101,119]
theorem choice_eq (w z o:List UInt8):script_choice w z o = some (match choiceS w z o with
    | some v=>((v,[]),none)
    | none=>((0,[]),some 1)):=by
  unfold script_choice choiceS
  simp only [boolO,Option.bind_some]
  by_cases h1:w = z
  · subst h1;simp
  · by_cases h2:w = o
    · subst h2;rw [beq_false_of_ne h1];simp [h1]
    · rw [beq_false_of_ne h1,beq_false_of_ne h2];simp [h1,h2]
/-- A word of a kind: what it says, or which error it is. -/
def readS (k:UInt8) (w:List UInt8):WdT ⊕ Nat:=
  if k = 82 then (match choiceS w wWatch wWrite with | some v=>.inl (v,[]) | none=>.inr 1) else
  if k = 83 then (match choiceS w wHub wView with | some v=>.inl (v,[]) | none=>.inr 1) else
  if k = 84 then (match textS w 0 1000 with | some o=>.inl (0,o) | none=>.inr 0) else
  if k = 75 then (match textS w 1 16 with | some o=>.inl (0,o) | none=>.inr 0) else
  (match numS w (kLo k) (kHi k) with | some v=>.inl (v,[]) | none=>.inr 4)
def resR {α:Type} (z:α):α ⊕ Nat → α × Option Nat
  | .inl x=>(x,none)
  | .inr e=>(z,some e)
theorem beqk (k:UInt8) (n:Nat) (h:n < 256):((k.toNat:Int) == (n:Int)) = decide (k = UInt8.ofNat n):=by
  by_cases e:k = UInt8.ofNat n
  · subst e;simp;omega
  · simp only [e,decide_false,beq_eq_false_iff_ne,ne_eq]
    intro h2
    apply e
    apply UInt8.toNat_inj.1
    simp;omega
theorem read_eq {w:List UInt8} {k:UInt8} (hl:w.length < 1000000):script_read w k = some (resR (0,[]) (readS k w)):=by
  unfold script_read readS
  simp only [boolO,Option.bind_some,choice_eq,text_eq hl,number_eq]
  rw [show ((k.toNat:Int) == 82) = decide (k = 82) from beqk k 82 (by omega),show ((k.toNat:Int) == 83) = decide (k = 83) from beqk k 83 (by omega),show ((k.toNat:Int) == 84) = decide (k = 84) from beqk k 84 (by omega),show ((k.toNat:Int) == 75) = decide (k = 75) from beqk k 75 (by omega)]
  by_cases h1:k = 82
  · simp only [h1,decide_true,cond_true,if_true]
    simp only [show ([119,97,116,99,104]:List UInt8) = wWatch from rfl,show ([119,114,105,116,101]:List UInt8) = wWrite from rfl]
    cases choiceS w wWatch wWrite <;> rfl
  simp only [h1,decide_false,cond_false,if_false]
  by_cases h2:k = 83
  · simp only [h2,decide_true,cond_true,if_true]
    simp only [show ([104,117,98]:List UInt8) = wHub from rfl,show ([118,105,101,119]:List UInt8) = wView from rfl]
    cases choiceS w wHub wView <;> rfl
  simp only [h2,decide_false,cond_false,if_false]
  by_cases h3:k = 84
  · simp only [h3,decide_true,cond_true,if_true]
    cases textS w 0 1000 <;> rfl
  simp only [h3,decide_false,cond_false,if_false]
  by_cases h4:k = 75
  · simp only [h4,decide_true,cond_true,if_true]
    cases textS w 1 16 <;> rfl
  simp only [h4,decide_false,cond_false,if_false]
  cases numS w (kLo k) (kHi k) <;> rfl
def readL:List UInt8 → List (List UInt8) → List WdT ⊕ Nat
  | k :: ks,w :: ws=>match readS k w with
    | .inr e=>.inr e
    | .inl x=>match readL ks ws with
      | .inr e=>.inr e
      | .inl l=>.inl (x :: l)
  | _,_=>.inl []
theorem readL_cons (k:UInt8) (ks:List UInt8) (w:List UInt8) (ws:List (List UInt8)):readL (k :: ks) (w :: ws) = match readS k w with
    | .inr e=>.inr e
    | .inl x=>match readL ks ws with
      | .inr e=>.inr e
      | .inl l=>.inl (x :: l):=rfl
def appR (l:List WdT):List WdT ⊕ Nat → Option Nat ⊕ List WdT
  | .inl r=>.inr (l ++ r)
  | .inr e=>.inl (some e)
theorem parse_loop {f:List UInt8} {ps:List (List UInt8)} (hp:ps.length = f.length) (hf:f.length ≤ 4) (hl:∀ w ∈ ps,w.length < 1000000):∀ (m i:Nat) (acc:List WdT),i + m = f.length → acc.length = i →
    loopO (script_parse_loop1 f ps) ((i:Int),acc) = some (appR acc (readL (f.drop i) (ps.drop i))):=by
  intro m
  induction m with
  | zero=>
    intro i acc hi ha
    rw [loopO_eq]
    unfold script_parse_loop1
    simp only [boolO,Option.bind_some]
    rw [dec_f (by omega),List.drop_of_length_le (by omega)]
    simp [req_pos,readL,appR]
  | succ m ih=>
    intro i acc hi ha
    rw [loopO_eq,List.drop_eq_getElem_cons (show i < f.length by omega),List.drop_eq_getElem_cons (show i < ps.length by omega)]
    have hw:=hl ps[i] (List.getElem_mem _)
    rw [readL_cons]
    cases hr:readS f[i] ps[i] with
    | inr e=>
      have hst:script_parse_loop1 f ps ((i:Int),acc) = some (.inl (.inl (some e))):=by
        unfold script_parse_loop1
        simp only [boolO,Option.bind_some,getI_nat,List.getElem?_eq_getElem (show i < ps.length by omega),List.getElem?_eq_getElem (show i < f.length by omega),read_eq hw,hr,resR]
        rw [dec_t (by omega)]
        rfl
      rw [hst];rfl
    | inl x=>
      have hst:script_parse_loop1 f ps ((i:Int),acc) = some (.inr (((i + 1:Nat):Int),acc ++ [x])):=by
        unfold script_parse_loop1
        simp only [boolO,Option.bind_some,getI_nat,List.getElem?_eq_getElem (show i < ps.length by omega),List.getElem?_eq_getElem (show i < f.length by omega),read_eq hw,hr,resR]
        rw [dec_t (by omega)]
        simp only [cond_true,Option.isNone_none,Bool.not_true,cond_false]
        rw [req_pos trivial,req_pos (by simp [maxBy];omega),req_pos trivial,w64id (by omega)]
        rfl
      rw [hst]
      simp only
      rw [ih (i + 1) (acc ++ [x]) (by omega) (by simp;omega)]
      cases readL (f.drop (i + 1)) (ps.drop (i + 1)) with
      | inl r=>simp [appR]
      | inr e=>rfl
theorem readL_len:∀ {ks:List UInt8} {ws:List (List UInt8)} {l:List WdT},readL ks ws = .inl l → ks.length = ws.length → l.length = ks.length
  | [],ws,l,h,hl=>by simp [readL] at h;subst h;rfl
  | k :: ks,[],l,h,hl=>by simp at hl
  | k :: ks,w :: ws,l,h,hl=>by
    simp only [readL] at h
    split at h
    · simp at h
    · split at h
      · simp at h
      · rename_i r hr;simp at h;subst h
        simp at hl
        simp [readL_len hr hl]
abbrev DdT:=Int × List UInt8 × Int × Int
abbrev EvT:=Int × Int × Int × Int × Int × DdT × List UInt8
def ev0:EvT:=(0,0,0,0,0,(0,[],0,0),[])
def wn (w:List WdT) (i:Nat):Int:=match w[i]? with | some x=>x.1 | none=>0
def wb (w:List WdT) (i:Nat):List UInt8:=match w[i]? with | some x=>x.2 | none=>[]
def evS (f:List UInt8) (w:List WdT):EvT:=
  if f = nmJ then (1,wn w 0,0,0,1 + wn w 1,(0,[],0,0),[]) else
  if f = nmR then (3,wn w 0,0,0,1 + wn w 1,(0,[],0,0),[]) else
  if f = nmL then (2,wn w 0,0,0,0,(0,[],0,0),[]) else
  if f = nmA then (5,wn w 0,0,0,0,(3,[],0,0),[]) else
  if f = nmF then (5,wn w 0,0,0,0,(4,[],0,0),[]) else
  if f = nmK then (5,wn w 0,0,0,0,(1,wb w 1,0,0),[]) else
  if f = nmS then (5,wn w 0,0,0,0,(2,[],wn w 1,wn w 2),[]) else
  if f = nmO then (4,wn w 0,0,0,0,(0,[],0,0),wb w 0) else
  if f = nmT then (6,0,wn w 0,0,0,(0,[],0,0),[]) else
  if f = nmD then (7,0,wn w 0,0,0,(0,[],0,0),[]) else
  if f = nmP then (8,0,wn w 0,wn w 1,0,(0,[],0,0),[]) else
  if f = nmM then (9,wn w 0,wn w 1,0,0,(0,[],0,0),[]) else
  (10,wn w 0,wn w 1,wn w 2,0,(0,[],0,0),wb w 3)
/-- The event of a line, or its error. -/
def lineS (s:List UInt8):EvT ⊕ Nat:=
  if (32:UInt8) ∉ s ∨ bef 32 s ∉ names then .inr 1 else
  if (splN 32 ((formS (bef 32 s)).length - 1) (aft 32 s)).length < (formS (bef 32 s)).length then .inr 1 else
  match readL (formS (bef 32 s)) (splN 32 ((formS (bef 32 s)).length - 1) (aft 32 s)) with
  | .inl w=>.inl (evS (bef 32 s) w)
  | .inr e=>.inr e
end Go.SH
namespace Go.SH
theorem len1 {α:Type} {l:List α} (h:l.length = 1):∃ a,l = [a]:=by match l,h with | [a],_=>exact ⟨a,rfl⟩
theorem len2 {α:Type} {l:List α} (h:l.length = 2):∃ a b,l = [a,b]:=by match l,h with | [a,b],_=>exact ⟨a,b,rfl⟩
theorem len3 {α:Type} {l:List α} (h:l.length = 3):∃ a b c,l = [a,b,c]:=by match l,h with | [a,b,c],_=>exact ⟨a,b,c,rfl⟩
theorem len4 {α:Type} {l:List α} (h:l.length = 4):∃ a b c d,l = [a,b,c,d]:=by match l,h with | [a,b,c,d],_=>exact ⟨a,b,c,d,rfl⟩
theorem event_eq {f:List UInt8} {w:List WdT} (hf:f ∈ names) (hw:w.length = (formS f).length) (hc:f = nmJ ∨ f = nmR → 0 ≤ wn w 1 ∧ wn w 1 ≤ 1):script_event f w = some (evS f w):=by
  simp only [names,List.mem_cons,List.not_mem_nil,or_false] at hf
  rcases hf with h | h | h | h | h | h | h | h | h | h | h | h | h <;> subst h
  · obtain ⟨a,b,rfl⟩:=len2 hw
    have:=hc (.inl rfl)
    simp [wn] at this
    have e:IntKind.i64.wrap ((1:Int) + b.1) = 1 + b.1:=w64id (by omega)
    show some ((1:Int),a.1,(0:Int),(0:Int),IntKind.i64.wrap ((1:Int) + b.1),((0:Int),([]:List UInt8),(0:Int),(0:Int)),([]:List UInt8)) = _
    rw [e];rfl
  · obtain ⟨a,b,rfl⟩:=len2 hw
    have:=hc (.inr rfl)
    simp [wn] at this
    have e:IntKind.i64.wrap ((1:Int) + b.1) = 1 + b.1:=w64id (by omega)
    show some ((3:Int),a.1,(0:Int),(0:Int),IntKind.i64.wrap ((1:Int) + b.1),((0:Int),([]:List UInt8),(0:Int),(0:Int)),([]:List UInt8)) = _
    rw [e];rfl
  · obtain ⟨a,rfl⟩:=len1 hw;rfl
  · obtain ⟨a,rfl⟩:=len1 hw;rfl
  · obtain ⟨a,rfl⟩:=len1 hw;rfl
  · obtain ⟨a,rfl⟩:=len1 hw;rfl
  · obtain ⟨a,b,rfl⟩:=len2 hw;rfl
  · obtain ⟨a,b,c,rfl⟩:=len3 hw;rfl
  · obtain ⟨a,rfl⟩:=len1 hw;rfl
  · obtain ⟨a,rfl⟩:=len1 hw;rfl
  · obtain ⟨a,b,rfl⟩:=len2 hw;rfl
  · obtain ⟨a,b,rfl⟩:=len2 hw;rfl
  · obtain ⟨a,b,c,d,rfl⟩:=len4 hw;rfl
theorem choiceS_le {w z o:List UInt8} {v:Int} (h:choiceS w z o = some v):0 ≤ v ∧ v ≤ 1:=by
  unfold choiceS at h
  split at h
  · simp at h;omega
  · split at h
    · simp at h;omega
    · simp at h
theorem readL_role {k:UInt8} {ws:List (List UInt8)} {w:List WdT} (h:readL [k,82] ws = .inl w):0 ≤ wn w 1 ∧ wn w 1 ≤ 1:=by
  match ws with
  | []=>simp [readL] at h;subst h;simp [wn]
  | [a]=>
    simp only [readL] at h
    split at h
    · simp at h
    · simp at h;subst h;simp [wn]
  | a :: b :: r=>
    simp only [readL] at h
    split at h
    · simp at h
    · rename_i x hx
      cases hr:readS 82 b with
      | inr e=>rw [hr] at h;simp at h
      | inl y=>
        rw [hr] at h
        simp at h;subst h
        simp only [readS,if_true] at hr
        cases hc:choiceS b wWatch wWrite with
        | none=>rw [hc] at hr;simp at hr
        | some v=>
          rw [hc] at hr;simp at hr;subst hr
          simpa [wn] using choiceS_le hc
theorem parse_eq {s:List UInt8} (hl:s.length < 1000000):script_parse s = some (resR ev0 (lineS s)):=by
  unfold script_parse lineS
  rw [Cut_1a5_eq (by omega),Option.bind_some]
  by_cases h32:(32:UInt8) ∈ s
  · rw [show cutS 32 s = (bef 32 s,aft 32 s,true) from if_pos h32]
    simp only [form_eq,Option.bind_some,boolO]
    by_cases hn:bef 32 s ∈ names
    · obtain ⟨hf1,hf4⟩:=form_some hn
      have e0:(formS (bef 32 s) == []) = false:=beq_false_of_ne fun e=>by rw [e] at hf1;simp at hf1
      rw [if_neg (fun h=>h.elim (fun h=>h h32) fun h=>h hn)]
      simp only [e0,cond_false,Bool.not_true,Option.bind_some]
      have hal:=lens h32
      rw [SplitN_eq hf1 (by omega) (by omega),Option.bind_some]
      obtain ⟨p1,p2⟩:=splN_len 32 ((formS (bef 32 s)).length - 1) (aft 32 s)
      by_cases hp:(splN 32 ((formS (bef 32 s)).length - 1) (aft 32 s)).length < (formS (bef 32 s)).length
      · rw [dec_t (by omega),if_pos hp];rfl
      · rw [dec_f (by omega),if_neg hp]
        simp only [cond_false]
        have hpl:(splN 32 ((formS (bef 32 s)).length - 1) (aft 32 s)).length = (formS (bef 32 s)).length:=by omega
        have:=parse_loop hpl hf4 (fun w hw=>by have:=splN_le 32 _ _ w hw;omega) (formS (bef 32 s)).length 0 [] (by omega) rfl
        rw [show ((0:Nat):Int) = 0 from rfl,List.drop_zero,List.drop_zero] at this
        rw [this,Option.bind_some]
        cases hr:readL (formS (bef 32 s)) (splN 32 ((formS (bef 32 s)).length - 1) (aft 32 s)) with
        | inr e=>rfl
        | inl w=>
          simp only [appR,List.nil_append]
          rw [req_pos trivial,event_eq hn (readL_len hr hpl.symm)]
          · rfl
          · rintro (h | h) <;> (rw [h] at hr;exact readL_role hr)
    · rw [if_pos (.inr hn),form_none hn];rfl
  · rw [show cutS 32 s = (s,[],false) from if_neg h32,if_pos (.inl h32)]
    simp only [form_eq,Option.bind_some,boolO]
    cases (formS s == []) <;> rfl
section
variable {ws:List (List UInt8)} {i a4:Int} {p:List UInt8}
end
def cdOf (k:Nat):Int:=if k = 3 then 1 else if k = 1 then 2 else if k = 4 then 3 else if k = 0 then 4 else if k = 2 then 5 else 0
end Go.SH
namespace Go.SH
/-- The events of a text from its n-th line on, or the line of its first fault, and which. -/
def parseS:Nat → Nat → List UInt8 → List EvT ⊕ (Nat × Nat)
  | 0,_,_=>.inl []
  | f + 1,n,s=>if s = [] then .inl [] else
    if (bef 10 s).length > 3100 ∨ n > 1000 then .inr (n,3) else
    if (10:UInt8) ∉ s then .inr (n,2) else
    match lineS (bef 10 s) with
    | .inr k=>.inr (n,k)
    | .inl e=>match parseS f (n + 1) (aft 10 s) with
      | .inl l=>.inl (e :: l)
      | .inr x=>.inr x
def outS (acc:List EvT):List EvT ⊕ (Nat × Nat) → Option (Int × Option Nat) ⊕ List EvT
  | .inl l=>.inr (acc ++ l)
  | .inr x=>.inl (some ((x.1:Int),some x.2))
theorem Parse_loop:∀ (f:Nat) (s:List UInt8) (n:Nat) (acc:List EvT),s.length < f → f < 1000000 → n < 2000000 → acc.length + f < 2000000 →
    loopO script_Parse_loop1 (s,(n:Int),acc) = some (outS acc (parseS f n s)):=by
  intro f
  induction f with
  | zero=>intro s n acc h;omega
  | succ f ih=>
    intro s n acc hs hf hn ha
    rw [loopO_eq]
    unfold parseS
    by_cases h0:s = []
    · subst h0
      rw [if_pos rfl]
      unfold script_Parse_loop1
      simp [req_pos,outS]
    · rw [if_neg h0]
      have e0:(s == ([]:List UInt8)) = false:=beq_false_of_ne h0
      by_cases h1:(bef 10 s).length > 3100 ∨ n > 1000
      · rw [if_pos h1]
        have hst:script_Parse_loop1 (s,(n:Int),acc) = some (.inl (.inl (some ((n:Int),some 3)))):=by
          unfold script_Parse_loop1
          simp only [e0,Bool.not_false,cond_true,Option.bind_some,boolO,Cut_cc6_eq (show s.length < 4611686018427387904 by omega)]
          have hb:(cutS 10 s).1 = bef 10 s:=by
            unfold cutS
            by_cases h10:(10:UInt8) ∈ s
            · rw [if_pos h10]
            · rw [if_neg h10,bef_not h10]
          rw [hb]
          rcases h1 with h | h
          · rw [dec_t (by omega)];simp [req_pos,script_in,asE0]
          · rw [dec_t (by omega:(n:Int) > 1000)]
            cases decide (((bef 10 s).length:Int) > 3100) <;> simp [req_pos,script_in,asE0]
        rw [hst];rfl
      · rw [if_neg h1]
        simp only [not_or,Nat.not_lt,gt_iff_lt] at h1
        by_cases h10:(10:UInt8) ∈ s
        · rw [if_neg (fun h=>h h10)]
          have hal:=lens h10
          cases hl:lineS (bef 10 s) with
          | inr k=>
            have hst:script_Parse_loop1 (s,(n:Int),acc) = some (.inl (.inl (some ((n:Int),some k)))):=by
              unfold script_Parse_loop1
              simp only [e0,Bool.not_false,cond_true,Option.bind_some,boolO,Cut_cc6_eq (show s.length < 4611686018427387904 by omega)]
              rw [show cutS 10 s = (bef 10 s,aft 10 s,true) from if_pos h10]
              simp only [parse_eq (show (bef 10 s).length < 1000000 by omega),hl]
              rw [dec_f (by omega),dec_f (by omega)]
              simp only [cond_false,Option.bind_some,Bool.not_true,resR]
              rw [req_pos trivial,req_pos (by simp [maxBy];omega),req_pos trivial]
              rfl
            rw [hst];rfl
          | inl e=>
            have hst:script_Parse_loop1 (s,(n:Int),acc) = some (.inr (aft 10 s,((n + 1:Nat):Int),acc ++ [e])):=by
              unfold script_Parse_loop1
              simp only [e0,Bool.not_false,cond_true,Option.bind_some,boolO,Cut_cc6_eq (show s.length < 4611686018427387904 by omega)]
              rw [show cutS 10 s = (bef 10 s,aft 10 s,true) from if_pos h10]
              simp only [parse_eq (show (bef 10 s).length < 1000000 by omega),hl]
              rw [dec_f (by omega),dec_f (by omega)]
              simp only [cond_false,Option.bind_some,Bool.not_true,resR]
              rw [req_pos trivial,req_pos (by simp [maxBy];omega),req_pos trivial]
              simp only [Option.bind_some,Option.isNone_none,Bool.not_true,cond_false]
              rw [req_pos trivial,w64id (by omega)]
              rfl
            rw [hst]
            simp only
            rw [ih (aft 10 s) (n + 1) (acc ++ [e]) (by omega) (by omega) (by omega) (by simp;omega)]
            cases parseS f (n + 1) (aft 10 s) with
            | inl l=>simp [outS]
            | inr x=>rfl
        · rw [if_pos h10]
          have hst:script_Parse_loop1 (s,(n:Int),acc) = some (.inl (.inl (some ((n:Int),some 2)))):=by
            unfold script_Parse_loop1
            simp only [e0,Bool.not_false,cond_true,Option.bind_some,boolO,Cut_cc6_eq (show s.length < 4611686018427387904 by omega)]
            rw [show cutS 10 s = (s,[],false) from if_neg h10]
            simp only
            rw [bef_not h10] at h1
            rw [dec_f (by omega),dec_f (by omega)]
            simp [req_pos,script_in,asE0]
          rw [hst];rfl
def PS (s:List UInt8):List EvT ⊕ (Nat × Nat):=parseS (s.length + 1) 1 s
def resP:List EvT ⊕ (Nat × Nat) → List EvT × Option (Int × Option Nat)
  | .inl l=>(l,none)
  | .inr x=>([],some ((x.1:Int),some x.2))
theorem Parse_eq {s:List UInt8} (hl:s.length < 900000):script_Parse s = some (resP (PS s)):=by
  unfold script_Parse PS
  have:=Parse_loop (s.length + 1) s 1 [] (by omega) (by omega) (by omega) (by simp;omega)
  rw [show ((1:Nat):Int) = 1 from rfl] at this
  rw [this,Option.bind_some]
  cases parseS (s.length + 1) 1 s with
  | inl l=>simp [outS,resP,req_pos]
  | inr x=>rfl
end Go.SH
namespace Go.SH
open Lib (decDigits)
theorem fault_eq (n:Int) {k:Nat} (hk:k ≤ 4):oriellaw34_fault (some (n,some k)) = some (n,cdOf k):=by
  have:k = 0 ∨ k = 1 ∨ k = 2 ∨ k = 3 ∨ k = 4:=by omega
  rcases this with h | h | h | h | h <;> subst h <;> rfl
abbrev Ev2:=Int × DdT × List UInt8
instance instEv2:DecidableEq Ev2:=inferInstance
instance instEv3:DecidableEq (Int × Ev2):=fun a b=>@instDecidableEqProd Int Ev2 _ instEv2 a b
instance instEv4:DecidableEq (Int × Int × Ev2):=fun a b=>@instDecidableEqProd Int (Int × Ev2) _ instEv3 a b
instance instEv5:DecidableEq (Int × Int × Int × Ev2):=fun a b=>@instDecidableEqProd Int (Int × Int × Ev2) _ instEv4 a b
instance instEv:DecidableEq EvT:=fun a b=>@instDecidableEqProd Int (Int × Int × Int × Ev2) _ instEv5 a b
theorem same_eq (a b:EvT):script_same a b = some (decide (a = b)):=by
  obtain ⟨a1,a2,a3,a4,a5,⟨d1,d2,d3,d4⟩,a6⟩:=a
  obtain ⟨b1,b2,b3,b4,b5,⟨c1,c2,c3,c4⟩,b6⟩:=b
  unfold script_same
  simp only [Prod.mk.injEq]
  by_cases h1:a1 = b1
  · by_cases h2:a2 = b2
    · by_cases h3:a3 = b3
      · by_cases h4:a4 = b4
        · by_cases h5:a5 = b5
          · by_cases h6:a6 = b6
            · by_cases h7:d1 = c1
              · by_cases h8:d2 = c2
                · by_cases h9:d3 = c3
                  · by_cases h10:d4 = c4
                    · simp [h1,h2,h3,h4,h5,h6,h7,h8,h9,h10]
                    · simp [h1,h2,h3,h4,h5,h6,h7,h8,h9,h10,beq_false_of_ne h10]
                  · simp [h1,h2,h3,h4,h5,h6,h7,h8,h9,beq_false_of_ne h9]
                · simp [h1,h2,h3,h4,h5,h6,h7,h8,beq_false_of_ne h8]
              · simp [h1,h2,h3,h4,h5,h6,h7,beq_false_of_ne h7]
            · simp [h1,h2,h3,h4,h5,h6,beq_false_of_ne h6]
          · simp [h1,h2,h3,h4,h5,beq_false_of_ne h5]
        · simp [h1,h2,h3,h4,beq_false_of_ne h4]
      · simp [h1,h2,h3,beq_false_of_ne h3]
    · simp [h1,h2,beq_false_of_ne h2]
  · simp [h1,beq_false_of_ne h1]
theorem dsame_eq (a b:DdT):orielref21_Same (0,[a]) (0,[b]) = some (decide (a = b)):=by
  obtain ⟨d1,d2,d3,d4⟩:=a
  obtain ⟨c1,c2,c3,c4⟩:=b
  unfold orielref21_Same
  simp only [bne_self_eq_false,cond_false,Option.bind_some,List.length_cons,List.length_nil]
  rw [loopO_eq]
  have hst:orielref21_Same_loop1 (0,[(d1,d2,d3,d4)]) (0,[(c1,c2,c3,c4)]) 0 = some (bif decide ((d1,d2,d3,d4) = (c1,c2,c3,c4)) then .inr 1 else .inl (.inl ())):=by
    unfold orielref21_Same_loop1
    simp only [boolO,Option.bind_some,List.length_cons,List.length_nil,Prod.mk.injEq]
    rw [dec_t (by decide),show getI [(d1,d2,d3,d4)] 0 = some (d1,d2,d3,d4) from rfl,show getI [(c1,c2,c3,c4)] 0 = some (c1,c2,c3,c4) from rfl]
    simp only [cond_true,Option.bind_some]
    by_cases h7:d1 = c1
    · by_cases h9:d3 = c3
      · by_cases h10:d4 = c4
        · by_cases h8:d2 = c2
          · subst h7 h8 h9 h10;simp [w64]
          · simp [h7,h8,h9,h10,beq_false_of_ne h8]
        · have:(d4 != c4) = true:=bne_iff_ne.2 h10
          simp [h7,h9,h10,this]
      · have:(d3 != c3) = true:=bne_iff_ne.2 h9
        simp [h7,h9,this]
    · have:(d1 != c1) = true:=bne_iff_ne.2 h7
      simp [h7,this]
  rw [hst]
  cases decide ((d1,d2,d3,d4) = (c1,c2,c3,c4)) with
  | false=>rfl
  | true=>
    simp only [cond_true]
    rw [loopO_eq]
    rfl
theorem Same_eq (a b:EvT):orielref34_Same a b = some (decide (a = b)):=by
  obtain ⟨a1,a2,a3,a4,a5,d,a6⟩:=a
  obtain ⟨b1,b2,b3,b4,b5,c,b6⟩:=b
  unfold orielref34_Same
  simp only [Prod.mk.injEq,dsame_eq,Option.bind_some]
  by_cases h1:a1 = b1
  · by_cases h2:a2 = b2
    · by_cases h3:a3 = b3
      · by_cases h4:a4 = b4
        · by_cases h5:a5 = b5
          · by_cases h6:a6 = b6
            · simp [h1,h2,h3,h4,h5,h6]
              exact dsame_eq d c
            · simp [h1,h2,h3,h4,h5,h6,beq_false_of_ne h6]
          · simp [h1,h2,h3,h4,h5,beq_false_of_ne h5]
        · simp [h1,h2,h3,h4,beq_false_of_ne h4]
      · simp [h1,h2,h3,beq_false_of_ne h3]
    · simp [h1,h2,beq_false_of_ne h2]
  · simp [h1,beq_false_of_ne h1]
end Go.SH
namespace Go.SH
open Lib (decDigits)
def hd1 (x:UInt8):UInt8:=(lit_4032a[x.toNat / 16]?).getD 0
def hd2 (x:UInt8):UInt8:=(lit_4032a[x.toNat % 16]?).getD 0
def qb (x:UInt8):List UInt8:=bif plainB x then [x] else [92,hd1 x,hd2 x]
def quotS (b:List UInt8):List UInt8:=34 :: (b.flatMap qb ++ [34])
theorem hd1_fin:∀ i:_root_.Fin 256,getI lit_4032a ((UInt8.ofInt (IntKind.u8.wrap (Int.tdiv ((UInt8.ofNat i.val).toNat:Int) 16))).toNat:Int) = some (hd1 (UInt8.ofNat i.val)):=by decide +kernel
theorem hd2_fin:∀ i:_root_.Fin 256,getI lit_4032a ((UInt8.ofInt (Int.tmod ((UInt8.ofNat i.val).toNat:Int) 16)).toNat:Int) = some (hd2 (UInt8.ofNat i.val)):=by decide +kernel
theorem hd1_eq (x:UInt8):getI lit_4032a ((UInt8.ofInt (IntKind.u8.wrap (Int.tdiv (x.toNat:Int) 16))).toNat:Int) = some (hd1 x):=u8_all (P:=fun x=>getI lit_4032a ((UInt8.ofInt (IntKind.u8.wrap (Int.tdiv (x.toNat:Int) 16))).toNat:Int) = some (hd1 x)) hd1_fin x
theorem hd2_eq (x:UInt8):getI lit_4032a ((UInt8.ofInt (Int.tmod (x.toNat:Int) 16)).toNat:Int) = some (hd2 x):=u8_all (P:=fun x=>getI lit_4032a ((UInt8.ofInt (Int.tmod (x.toNat:Int) 16)).toNat:Int) = some (hd2 x)) hd2_fin x
theorem qb_len (x:UInt8):(qb x).length ≤ 3:=by unfold qb;cases plainB x <;> simp
theorem quot_loop {b:List UInt8} (hl:b.length < 100000):∀ (m i:Nat) (acc:List UInt8),i + m = b.length → acc.length ≤ 1 + 3 * i →
    loopO (script_quoted_loop1 b) ((i:Int),acc) = some (acc ++ (b.drop i).flatMap qb):=by
  intro m
  induction m with
  | zero=>
    intro i acc hi ha
    rw [loopO_eq]
    unfold script_quoted_loop1
    simp only [boolO,Option.bind_some]
    rw [dec_f (by omega),List.drop_of_length_le (by omega)]
    simp [req_pos]
  | succ m ih=>
    intro i acc hi ha
    have hlt:i < b.length:=by omega
    rw [loopO_eq,List.drop_eq_getElem_cons hlt]
    have hst:script_quoted_loop1 b ((i:Int),acc) = some (.inr (((i + 1:Nat):Int),acc ++ qb b[i])):=by
      unfold script_quoted_loop1 qb
      simp only [boolO,Option.bind_some,show getI b (i:Int) = some b[i] from by rw [getI_nat,List.getElem?_eq_getElem hlt],plain_eq,hd1_eq,hd2_eq]
      rw [dec_t (by omega)]
      cases plainB b[i] with
      | true=>
        simp only [cond_true]
        rw [req_pos trivial,req_pos (by simp [maxBy];omega),req_pos trivial,Option.bind_some,req_pos trivial,w64id (by omega)]
        rfl
      | false=>
        simp only [cond_true,cond_false]
        rw [req_pos trivial,req_pos (by simp [maxBy];omega),req_pos trivial,Option.bind_some,req_pos trivial,w64id (by omega)]
        rfl
    rw [hst]
    simp only
    have:=qb_len b[i]
    rw [ih (i + 1) (acc ++ qb b[i]) (by omega) (by simp;omega),List.flatMap_cons,List.append_assoc]
theorem flat_len (b:List UInt8):(b.flatMap qb).length ≤ 3 * b.length:=by
  induction b with
  | nil=>simp
  | cons x b ih=>have:=qb_len x;simp only [List.flatMap_cons,List.length_append,List.length_cons];omega
theorem quot_len (b:List UInt8):(quotS b).length ≤ 3 * b.length + 2:=by have:=flat_len b;simp only [quotS,List.length_cons,List.length_append,List.length_nil];omega
theorem quoted_eq {b:List UInt8} (hl:b.length < 100000):script_quoted b = some (quotS b):=by
  unfold script_quoted
  have:=quot_loop hl b.length 0 [34] (by omega) (by simp)
  rw [show ((0:Nat):Int) = 0 from rfl,List.drop_zero] at this
  have hf:=flat_len b
  rw [this,Option.bind_some,req_pos rfl,req_pos (by simp only [List.length_append,List.length_cons,List.length_nil,maxBy];omega),req_pos rfl]
  simp [quotS]
def rlS (r:Int):List UInt8:=if r = 1 then [32,119,97,116,99,104] else if r = 2 then [32,119,114,105,116,101] else []
def itS (n:Int):List UInt8:=Lib.itoa n
def wordsS (e:EvT):List UInt8:=
  if e.1 = 1 then nmJ ++ 32 :: (itS e.2.1 ++ rlS e.2.2.2.2.1) else
  if e.1 = 2 then nmL ++ 32 :: itS e.2.1 else
  if e.1 = 3 then nmR ++ 32 :: (itS e.2.1 ++ rlS e.2.2.2.2.1) else
  if e.1 = 4 then nmO ++ 32 :: quotS e.2.2.2.2.2.2 else
  if e.1 = 5 then
    (if e.2.2.2.2.2.1.1 = 1 then nmK ++ 32 :: (itS e.2.1 ++ 32 :: quotS e.2.2.2.2.2.1.2.1) else
    if e.2.2.2.2.2.1.1 = 2 then nmS ++ 32 :: (itS e.2.1 ++ 32 :: (itS e.2.2.2.2.2.1.2.2.1 ++ 32 :: itS e.2.2.2.2.2.1.2.2.2)) else
    if e.2.2.2.2.2.1.1 = 3 then nmA ++ 32 :: itS e.2.1 else nmF ++ 32 :: itS e.2.1) else
  if e.1 = 6 then nmT ++ 32 :: itS e.2.2.1 else
  if e.1 = 7 then nmD ++ 32 :: itS e.2.2.1 else
  if e.1 = 8 then nmP ++ 32 :: (itS e.2.2.1 ++ 32 :: itS e.2.2.2.1) else
  if e.1 = 9 then nmM ++ 32 :: (itS e.2.1 ++ 32 :: itS e.2.2.1) else
  nmG ++ 32 :: (itS e.2.1 ++ 32 :: (itS e.2.2.1 ++ 32 :: ((if e.2.2.2.1 = 0 then wHub else wView) ++ 32 :: quotS e.2.2.2.2.2.2)))
def okI (n:Int):Prop:=-9223372036854775808 ≤ n ∧ n ≤ 9223372036854775807
def okE (e:EvT):Prop:=okI e.2.1 ∧ okI e.2.2.1 ∧ okI e.2.2.2.1 ∧ okI e.2.2.2.2.2.1.2.2.1 ∧ okI e.2.2.2.2.2.1.2.2.2 ∧ e.2.2.2.2.2.2.length ≤ 2000 ∧ e.2.2.2.2.2.1.2.1.length ≤ 2000
theorem it_eq {n:Int} (h:okI n):itoa n = some (itS n):=by unfold okI at h;unfold itoa;rw [req_pos h];rfl
theorem it_len {n:Int} (h:okI n):(itS n).length ≤ 21:=by
  have:∀ u:Nat,u < 10 ^ 20 → (decDigits u).length ≤ 20:=fun u hu=>nd_le hu (by omega)
  unfold itS Lib.itoa okI at *
  split
  · have:=this n.natAbs (by omega);simp;omega
  · have:=this n.toNat (by omega);omega
theorem rl_len (r:Int):(rlS r).length ≤ 6:=by
  unfold rlS
  repeat' split
  all_goals decide
theorem words_eq {e:EvT} (h:okE e):script_words e = some (wordsS e):=by
  obtain ⟨k,id,n,m,role,⟨dk,t,r,c⟩,b⟩:=e
  obtain ⟨h1,h2,h3,h4,h5,h6,h7⟩:=h
  simp only at h1 h2 h3 h4 h5 h6 h7
  unfold script_words wordsS
  have hr:(bif role == 1 then some ([32,119,97,116,99,104]) else bif role == 2 then some ([32,119,114,105,116,101]) else some ([]):Option (List UInt8)) = some (rlS role):=by
    unfold rlS
    by_cases e1:role = 1
    · subst e1;rfl
    · by_cases e2:role = 2
      · subst e2;rfl
      · rw [beq_false_of_ne e1,beq_false_of_ne e2,if_neg e1,if_neg e2];rfl
  have l1:=it_len h1
  have l2:=it_len h2
  have l3:=it_len h3
  have l4:=it_len h4
  have l5:=it_len h5
  have l6:=quot_len b
  have l7:=quot_len t
  have l8:=rl_len role
  simp only [hr,Option.bind_some,boolO,it_eq h1,it_eq h2,it_eq h3,it_eq h4,it_eq h5,quoted_eq (show b.length < 100000 by omega),quoted_eq (show t.length < 100000 by omega)]
  by_cases c1:k = 1
  · subst c1
    simp only [beq_self_eq_true,cond_true,if_true]
    rw [req_pos (by simp;omega),req_pos (by simp;omega)];simp [nmJ]
  rw [beq_false_of_ne c1,if_neg c1]
  by_cases c2:k = 2
  · subst c2
    simp only [beq_self_eq_true,cond_true,cond_false,if_true]
    rw [req_pos (by simp;omega)];simp [nmL]
  rw [beq_false_of_ne c2,if_neg c2]
  by_cases c3:k = 3
  · subst c3
    simp only [beq_self_eq_true,cond_true,cond_false,if_true]
    rw [req_pos (by simp;omega),req_pos (by simp;omega)];simp [nmR]
  rw [beq_false_of_ne c3,if_neg c3]
  by_cases c4:k = 4
  · subst c4
    simp only [beq_self_eq_true,cond_true,cond_false,if_true]
    rw [req_pos (by simp;omega)];simp [nmO]
  rw [beq_false_of_ne c4,if_neg c4]
  by_cases c5:k = 5
  · subst c5
    simp only [beq_self_eq_true,cond_true,cond_false,if_true]
    by_cases d1:dk = 1
    · subst d1
      simp only [beq_self_eq_true,cond_true,cond_false,if_true]
      rw [req_pos (by simp;omega),req_pos (by simp;omega),req_pos (by simp;omega)];simp [nmK]
    rw [beq_false_of_ne d1,if_neg d1]
    by_cases d2:dk = 2
    · subst d2
      simp only [beq_self_eq_true,cond_true,cond_false,if_true]
      rw [req_pos (by simp;omega),req_pos (by simp;omega),req_pos (by simp;omega),req_pos (by simp;omega),req_pos (by simp;omega)];simp [nmS]
    rw [beq_false_of_ne d2,if_neg d2]
    by_cases d3:dk = 3
    · subst d3
      simp only [beq_self_eq_true,cond_true,cond_false,if_true]
      rw [req_pos (by simp;omega)];simp [nmA]
    rw [beq_false_of_ne d3,if_neg d3]
    simp only [cond_false]
    rw [req_pos (by simp;omega)];simp [nmF]
  rw [beq_false_of_ne c5,if_neg c5]
  by_cases c6:k = 6
  · subst c6
    simp only [beq_self_eq_true,cond_true,cond_false,if_true]
    rw [req_pos (by simp;omega)];simp [nmT]
  rw [beq_false_of_ne c6,if_neg c6]
  by_cases c7:k = 7
  · subst c7
    simp only [beq_self_eq_true,cond_true,cond_false,if_true]
    rw [req_pos (by simp [lit_b92a4];omega)];simp [nmD,lit_b92a4]
  rw [beq_false_of_ne c7,if_neg c7]
  by_cases c8:k = 8
  · subst c8
    simp only [beq_self_eq_true,cond_true,cond_false,if_true]
    rw [req_pos (by simp;omega),req_pos (by simp;omega),req_pos (by simp;omega)];simp [nmP]
  rw [beq_false_of_ne c8,if_neg c8]
  by_cases c9:k = 9
  · subst c9
    simp only [beq_self_eq_true,cond_true,cond_false,if_true]
    rw [req_pos (by simp;omega),req_pos (by simp;omega),req_pos (by simp;omega)];simp [nmM]
  rw [beq_false_of_ne c9,if_neg c9]
  simp only [cond_false]
  by_cases m0:m = 0
  · subst m0
    simp only [beq_self_eq_true,cond_true,if_true]
    rw [req_pos (by simp;omega),req_pos (by simp;omega),req_pos (by simp;omega),req_pos (by simp;omega),req_pos (by simp;omega)];simp [nmG,wHub]
  · rw [beq_false_of_ne m0,if_neg m0]
    simp only [cond_false]
    rw [req_pos (by simp;omega),req_pos (by simp;omega),req_pos (by simp;omega),req_pos (by simp;omega),req_pos (by simp;omega)];simp [nmG,wView]
theorem ite_le {c:Prop} [Decidable c] {a b:List UInt8} {n:Nat} (h1:a.length ≤ n) (h2:b.length ≤ n):(if c then a else b).length ≤ n:=by split <;> assumption
theorem words_len {e:EvT} (h:okE e):(wordsS e).length ≤ 20000:=by
  obtain ⟨k,id,n,m,role,⟨dk,t,r,c⟩,b⟩:=e
  obtain ⟨h1,h2,h3,h4,h5,h6,h7⟩:=h
  simp only at h1 h2 h3 h4 h5 h6 h7
  have l1:=it_len h1
  have l2:=it_len h2
  have l3:=it_len h3
  have l4:=it_len h4
  have l5:=it_len h5
  have l6:=quot_len b
  have l7:=quot_len t
  have l8:=rl_len role
  have l9:(if m = 0 then wHub else wView).length ≤ 4:=by split <;> decide
  unfold wordsS
  repeat' apply ite_le
  all_goals simp [nmJ,nmR,nmL,nmA,nmF,nmO,nmK,nmS,nmT,nmD,nmP,nmM,nmG]
  all_goals omega
/-- Has an event a line? -/
def hasLn (e:EvT):Bool:=decide (e.2.2.2.2.2.2.length ≤ 1000) && (decide (e.2.2.2.2.2.1.2.1.length ≤ 16) && decide (lineS (wordsS e) = .inl e))
theorem Line_ok {e:EvT} (h:okE e):script_Line e = some (if hasLn e = true then (wordsS e,true) else ([],false)):=by
  unfold script_Line hasLn
  by_cases c1:e.2.2.2.2.2.2.length ≤ 1000
  · rw [dec_f (by omega:¬ ((e.2.2.2.2.2.2.length:Int) > 1000)),dec_t c1]
    by_cases c2:e.2.2.2.2.2.1.2.1.length ≤ 16
    · rw [dec_f (by omega:¬ ((e.2.2.2.2.2.1.2.1.length:Int) > 16)),dec_t c2]
      have:=words_len h
      simp only [cond_false,Option.bind_some,words_eq h,parse_eq (show (wordsS e).length < 1000000 by omega),Bool.true_and]
      cases hl:lineS (wordsS e) with
      | inr k=>simp [resR]
      | inl x=>
        simp only [resR,Option.isNone_none,Bool.not_true,cond_false,same_eq,Option.bind_some]
        by_cases hx:x = e
        · simp [hx]
        · have:¬ (Sum.inl x:EvT ⊕ Nat) = .inl e:=fun h=>hx (Sum.inl.inj h)
          simp [hx]
    · rw [dec_t (by omega:((e.2.2.2.2.2.1.2.1.length:Int) > 16)),dec_f c2]
      simp
  · rw [dec_t (by omega:((e.2.2.2.2.2.2.length:Int) > 1000)),dec_f c1]
    simp
end Go.SH
namespace Go.SH
open Lib (decDigits)
theorem hex_fin:∀ i:_root_.Fin 256,(decide (hexI (UInt8.ofNat i.val) < 0) || (decide (hexI (UInt8.ofNat i.val) < 16) && (lit_4032a[(hexI (UInt8.ofNat i.val)).toNat]? == some (UInt8.ofNat i.val)))) = true:=by decide +kernel
theorem hex_ok (c:UInt8) (h:¬ hexI c < 0):∃ i:_root_.Fin 16,hexI c = (i.val:Int) ∧ lit_4032a[i.val]? = some c:=by
  have:=u8_all (P:=fun c=>(decide (hexI c < 0) || (decide (hexI c < 16) && (lit_4032a[(hexI c).toNat]? == some c))) = true) hex_fin c
  simp only [h,decide_false,Bool.false_or,Bool.and_eq_true,decide_eq_true_eq,beq_iff_eq] at this
  exact ⟨⟨(hexI c).toNat,by omega⟩,by simp;omega,this.2⟩
theorem esc_fin:∀ i j:_root_.Fin 16,(plainB (hxI (i.val:Int) (j.val:Int)) || ((lit_4032a[i.val]? == some (hd1 (hxI (i.val:Int) (j.val:Int)))) && (lit_4032a[j.val]? == some (hd2 (hxI (i.val:Int) (j.val:Int)))))) = true:=by decide +kernel
theorem esc_ok {x y:UInt8} (h:badE x y = false):qb (hxI (hexI x) (hexI y)) = [92,x,y]:=by
  unfold badE at h
  simp only [Bool.or_eq_false_iff,decide_eq_false_iff_not] at h
  obtain ⟨h1,h2,h3⟩:=h
  obtain ⟨i,e1,l1⟩:=hex_ok x h1
  obtain ⟨j,e2,l2⟩:=hex_ok y h2
  have:=esc_fin i j
  rw [e1,e2] at h3 ⊢
  rw [h3,Bool.false_or,Bool.and_eq_true,beq_iff_eq,beq_iff_eq,l1,l2] at this
  unfold qb
  rw [h3]
  simp at this
  rw [← this.1,← this.2];rfl
theorem unq_back:∀ (n:Nat) (l o:List UInt8),l.length = n → unq l = some o → o.flatMap qb = l:=by
  intro n
  induction n using Nat.strongRecOn with
  | _ n ih=>
    intro l o hn h
    cases l with
    | nil=>rw [unq_nil] at h;simp at h;subst h;rfl
    | cons b r=>
      cases hp:plainB b with
      | true=>
        rw [unq_plain hp] at h
        obtain ⟨o',h',rfl⟩:=Option.map_eq_some_iff.1 h
        simp only [List.length_cons] at hn
        rw [List.flatMap_cons,ih r.length (by omega) r o' rfl h']
        simp [qb,hp]
      | false=>
        by_cases h92:b = 92
        · subst h92
          by_cases h1:r.length ≤ 1
          · rw [unq_short h1] at h;simp at h
          · obtain ⟨x,y,r',rfl⟩:∃ x y r',r = x :: y :: r':=by
              match r,h1 with
              | [],h=>simp at h
              | [_],h=>simp at h
              | x :: y :: r',_=>exact ⟨x,y,r',rfl⟩
            · rw [unq_esc] at h
              cases hb:badE x y with
              | true=>rw [hb] at h;simp at h
              | false=>
                rw [hb] at h
                simp only [cond_false] at h
                obtain ⟨o',h',rfl⟩:=Option.map_eq_some_iff.1 h
                simp only [List.length_cons] at hn
                rw [List.flatMap_cons,ih r'.length (by omega) r' o' rfl h',esc_ok hb]
                rfl
        · rw [unq_bad hp h92] at h;simp at h
theorem ends_inner {w:List UInt8} (h2:2 ≤ w.length) (ha:w.head? = some 34) (hz:w.getLast? = some 34):w = 34 :: (inner w ++ [34]):=by
  cases w with
  | nil=>simp at h2
  | cons a r=>
    simp at ha;subst ha
    have hr:r ≠ []:=by intro e;subst e;simp at h2
    congr 1
    have:r.getLast? = some 34:=by rw [List.getLast?_cons] at hz;cases hg:r.getLast? with
      | none=>simp at hg;exact absurd hg hr
      | some z=>rw [hg] at hz;simpa using hz
    have e:inner (34 :: r) = r.dropLast:=by simp [inner,List.dropLast_eq_take]
    rw [e]
    have:=List.dropLast_concat_getLast hr
    rw [List.getLast?_eq_some_getLast hr] at *
    simp_all
theorem text_back {w:List UInt8} {lo hi:Int} {o:List UInt8} (h:textS w lo hi = some o):quotS o = w ∧ lo ≤ o.length ∧ (o.length:Int) ≤ hi:=by
  unfold textS qS at h
  split at h
  · rename_i o' hq
    split at hq
    · rename_i hc
      by_cases c1:(o'.length:Int) < lo
      · simp [c1] at h
      · by_cases c2:(o'.length:Int) > hi
        · simp [c2] at h
        · simp [c1,c2] at h
          subst h
          refine ⟨?_,by omega,by omega⟩
          unfold quotS
          rw [unq_back _ _ _ rfl hq,← ends_inner hc.1 hc.2.1 hc.2.2]
    · simp at hq
  · simp at h
def joinS:List (List UInt8) → List UInt8
  | []=>[]
  | [a]=>a
  | a :: b :: l=>a ++ 32 :: joinS (b :: l)
theorem splN_join:∀ (k:Nat) (r:List UInt8),joinS (splN 32 k r) = r
  | 0,r=>rfl
  | k + 1,r=>by
    simp only [splN]
    split
    · rename_i h
      have ih:=splN_join k (aft 32 r)
      cases hs:splN 32 k (aft 32 r) with
      | nil=>have:=(splN_len 32 k (aft 32 r)).1;rw [hs] at this;simp at this
      | cons b l=>
        rw [hs] at ih
        show bef 32 r ++ 32 :: joinS (b :: l) = r
        rw [ih];exact (bef_aft h).symm
    · rfl
theorem it_pos {v:Int} (h:0 ≤ v):itS v = decDigits v.toNat:=by unfold itS Lib.itoa;rw [if_neg (by omega)]
theorem readN {k:UInt8} {p:List UInt8} {x:WdT} (hk:k ≠ 82 ∧ k ≠ 83 ∧ k ≠ 84 ∧ k ≠ 75) (h:readS k p = .inl x):itS x.1 = p ∧ okI x.1:=by
  unfold readS at h
  rw [if_neg hk.1,if_neg hk.2.1,if_neg hk.2.2.1,if_neg hk.2.2.2] at h
  split at h
  · rename_i v hv
    simp at h;subst h
    obtain ⟨_,_,h0,h1,h2,_⟩:=numS_some hv
    exact ⟨by rw [it_pos h0];exact h2,by unfold okI;simp only;omega⟩
  · simp at h
theorem readR {p:List UInt8} {x:WdT} (h:readS 82 p = .inl x):rlS (1 + x.1) = 32 :: p ∧ okI x.1:=by
  unfold readS at h
  rw [if_pos rfl] at h
  unfold choiceS at h
  split at h
  · rename_i v hv
    simp at h;subst h
    split at hv
    · rename_i e;simp at hv;subst hv;subst e;exact ⟨rfl,by unfold okI;omega⟩
    · split at hv
      · rename_i e;simp at hv;subst hv;subst e;exact ⟨rfl,by unfold okI;omega⟩
      · simp at hv
  · simp at h
theorem readH {p:List UInt8} {x:WdT} (h:readS 83 p = .inl x):(if x.1 = 0 then wHub else wView) = p ∧ okI x.1:=by
  unfold readS at h
  rw [if_neg (by decide),if_pos rfl] at h
  unfold choiceS at h
  split at h
  · rename_i v hv
    simp at h;subst h
    split at hv
    · rename_i e;simp at hv;subst hv;subst e;exact ⟨rfl,by unfold okI;omega⟩
    · split at hv
      · rename_i e;simp at hv;subst hv;subst e;exact ⟨rfl,by unfold okI;omega⟩
      · simp at hv
  · simp at h
theorem readT {p:List UInt8} {x:WdT} (h:readS 84 p = .inl x):quotS x.2 = p ∧ x.2.length ≤ 1000 ∧ okI x.1:=by
  unfold readS at h
  rw [if_neg (by decide),if_neg (by decide),if_pos rfl] at h
  split at h
  · rename_i v hv
    simp at h;subst h
    obtain ⟨h1,h2,h3⟩:=text_back hv
    exact ⟨h1,by simp only;omega,by unfold okI;simp only;omega⟩
  · simp at h
theorem readK {p:List UInt8} {x:WdT} (h:readS 75 p = .inl x):quotS x.2 = p ∧ x.2.length ≤ 16 ∧ okI x.1:=by
  unfold readS at h
  rw [if_neg (by decide),if_neg (by decide),if_neg (by decide),if_pos rfl] at h
  split at h
  · rename_i v hv
    simp at h;subst h
    obtain ⟨h1,h2,h3⟩:=text_back hv
    exact ⟨h1,by simp only;omega,by unfold okI;simp only;omega⟩
  · simp at h
theorem readL_some {k:UInt8} {ks w:List UInt8} {ws:List (List UInt8)} {l:List WdT} (h:readL (k :: ks) (w :: ws) = .inl l):∃ x r,readS k w = .inl x ∧ readL ks ws = .inl r ∧ l = x :: r:=by
  rw [readL_cons] at h
  split at h
  · simp at h
  · rename_i x hx
    split at h
    · simp at h
    · rename_i r hr;simp at h;exact ⟨x,r,hx,hr,h.symm⟩
theorem readL_nil {ws:List (List UInt8)} {l:List WdT} (h:readL [] ws = .inl l):l = []:=by simpa [readL] using h
theorem line_shape {s:List UInt8} {e:EvT} (h:lineS s = .inl e):∃ (f:List UInt8) (ps:List (List UInt8)) (w:List WdT),f ∈ names ∧ ps.length = (formS f).length ∧ readL (formS f) ps = .inl w ∧ e = evS f w ∧ s = f ++ 32 :: joinS ps:=by
  unfold lineS at h
  split at h
  · simp at h
  · rename_i hc
    simp only [not_or,Decidable.not_not] at hc
    split at h
    · simp at h
    · rename_i hlen
      have hpl:=(splN_len 32 ((formS (bef 32 s)).length - 1) (aft 32 s)).2
      have hf:=form_some hc.2
      split at h
      · rename_i w hw
        simp at h
        exact ⟨bef 32 s,_,w,hc.2,by omega,hw,h.symm,by rw [splN_join];exact bef_aft hc.1⟩
      · simp at h
/-- What is read is written again. -/
theorem line_back {s:List UInt8} {e:EvT} (h:lineS s = .inl e):wordsS e = s ∧ okE e ∧ e.2.2.2.2.2.2.length ≤ 1000 ∧ e.2.2.2.2.2.1.2.1.length ≤ 16:=by
  obtain ⟨f,ps,w,hf,hl,hr,rfl,rfl⟩:=line_shape h
  clear h
  simp only [names,List.mem_cons,List.not_mem_nil,or_false] at hf
  rcases hf with h | h | h | h | h | h | h | h | h | h | h | h | h <;> subst h
  · obtain ⟨p1,p2,rfl⟩:=len2 hl
    obtain ⟨x1,w1,a1,hr1,rfl⟩:=readL_some hr
    obtain ⟨x2,w2,a2,hr2,rfl⟩:=readL_some hr1
    obtain rfl:=readL_nil hr2
    obtain ⟨b1,c1⟩:=readN (by decide) a1
    obtain ⟨b2,c2⟩:=readR a2
    refine ⟨?_,?_,?_,?_⟩
    · simp [wordsS,evS,wn,wb,joinS,nmJ,nmR,nmL,nmA,nmF,nmO,nmK,nmS,nmT,nmD,nmP,nmM,nmG,b1,b2]
    · simp [okE,evS,wn,wb,okI,nmJ,nmR,nmL,nmA,nmF,nmO,nmK,nmS,nmT,nmD,nmP,nmM,nmG] at * <;> omega
    · simp [evS,wb,nmJ,nmR,nmL,nmA,nmF,nmO,nmK,nmS,nmT,nmD,nmP,nmM,nmG] <;> omega
    · simp [evS,wb,nmJ,nmR,nmL,nmA,nmF,nmO,nmK,nmS,nmT,nmD,nmP,nmM,nmG] <;> omega
  · obtain ⟨p1,p2,rfl⟩:=len2 hl
    obtain ⟨x1,w1,a1,hr1,rfl⟩:=readL_some hr
    obtain ⟨x2,w2,a2,hr2,rfl⟩:=readL_some hr1
    obtain rfl:=readL_nil hr2
    obtain ⟨b1,c1⟩:=readN (by decide) a1
    obtain ⟨b2,c2⟩:=readR a2
    refine ⟨?_,?_,?_,?_⟩
    · simp [wordsS,evS,wn,wb,joinS,nmJ,nmR,nmL,nmA,nmF,nmO,nmK,nmS,nmT,nmD,nmP,nmM,nmG,b1,b2]
    · simp [okE,evS,wn,wb,okI,nmJ,nmR,nmL,nmA,nmF,nmO,nmK,nmS,nmT,nmD,nmP,nmM,nmG] at * <;> omega
    · simp [evS,wb,nmJ,nmR,nmL,nmA,nmF,nmO,nmK,nmS,nmT,nmD,nmP,nmM,nmG] <;> omega
    · simp [evS,wb,nmJ,nmR,nmL,nmA,nmF,nmO,nmK,nmS,nmT,nmD,nmP,nmM,nmG] <;> omega
  · obtain ⟨p1,rfl⟩:=len1 hl
    obtain ⟨x1,w1,a1,hr1,rfl⟩:=readL_some hr
    obtain rfl:=readL_nil hr1
    obtain ⟨b1,c1⟩:=readN (by decide) a1
    refine ⟨?_,?_,?_,?_⟩
    · simp [wordsS,evS,wn,wb,joinS,nmJ,nmR,nmL,nmA,nmF,nmO,nmK,nmS,nmT,nmD,nmP,nmM,nmG,b1]
    · simp [okE,evS,wn,wb,okI,nmJ,nmR,nmL,nmA,nmF,nmO,nmK,nmS,nmT,nmD,nmP,nmM,nmG] at * <;> omega
    · simp [evS,wb,nmJ,nmR,nmL,nmA,nmF,nmO,nmK,nmS,nmT,nmD,nmP,nmM,nmG] <;> omega
    · simp [evS,wb,nmJ,nmR,nmL,nmA,nmF,nmO,nmK,nmS,nmT,nmD,nmP,nmM,nmG] <;> omega
  · obtain ⟨p1,rfl⟩:=len1 hl
    obtain ⟨x1,w1,a1,hr1,rfl⟩:=readL_some hr
    obtain rfl:=readL_nil hr1
    obtain ⟨b1,c1⟩:=readN (by decide) a1
    refine ⟨?_,?_,?_,?_⟩
    · simp [wordsS,evS,wn,wb,joinS,nmJ,nmR,nmL,nmA,nmF,nmO,nmK,nmS,nmT,nmD,nmP,nmM,nmG,b1]
    · simp [okE,evS,wn,wb,okI,nmJ,nmR,nmL,nmA,nmF,nmO,nmK,nmS,nmT,nmD,nmP,nmM,nmG] at * <;> omega
    · simp [evS,wb,nmJ,nmR,nmL,nmA,nmF,nmO,nmK,nmS,nmT,nmD,nmP,nmM,nmG] <;> omega
    · simp [evS,wb,nmJ,nmR,nmL,nmA,nmF,nmO,nmK,nmS,nmT,nmD,nmP,nmM,nmG] <;> omega
  · obtain ⟨p1,rfl⟩:=len1 hl
    obtain ⟨x1,w1,a1,hr1,rfl⟩:=readL_some hr
    obtain rfl:=readL_nil hr1
    obtain ⟨b1,c1⟩:=readN (by decide) a1
    refine ⟨?_,?_,?_,?_⟩
    · simp [wordsS,evS,wn,wb,joinS,nmJ,nmR,nmL,nmA,nmF,nmO,nmK,nmS,nmT,nmD,nmP,nmM,nmG,b1]
    · simp [okE,evS,wn,wb,okI,nmJ,nmR,nmL,nmA,nmF,nmO,nmK,nmS,nmT,nmD,nmP,nmM,nmG] at * <;> omega
    · simp [evS,wb,nmJ,nmR,nmL,nmA,nmF,nmO,nmK,nmS,nmT,nmD,nmP,nmM,nmG] <;> omega
    · simp [evS,wb,nmJ,nmR,nmL,nmA,nmF,nmO,nmK,nmS,nmT,nmD,nmP,nmM,nmG] <;> omega
  · obtain ⟨p1,rfl⟩:=len1 hl
    obtain ⟨x1,w1,a1,hr1,rfl⟩:=readL_some hr
    obtain rfl:=readL_nil hr1
    obtain ⟨b1,c1⟩:=readT a1
    obtain ⟨c1,d1⟩:=c1
    refine ⟨?_,?_,?_,?_⟩
    · simp [wordsS,evS,wn,wb,joinS,nmJ,nmR,nmL,nmA,nmF,nmO,nmK,nmS,nmT,nmD,nmP,nmM,nmG,b1]
    · simp [okE,evS,wn,wb,okI,nmJ,nmR,nmL,nmA,nmF,nmO,nmK,nmS,nmT,nmD,nmP,nmM,nmG] at * <;> omega
    · simp [evS,wb,nmJ,nmR,nmL,nmA,nmF,nmO,nmK,nmS,nmT,nmD,nmP,nmM,nmG] <;> omega
    · simp [evS,wb,nmJ,nmR,nmL,nmA,nmF,nmO,nmK,nmS,nmT,nmD,nmP,nmM,nmG] <;> omega
  · obtain ⟨p1,p2,rfl⟩:=len2 hl
    obtain ⟨x1,w1,a1,hr1,rfl⟩:=readL_some hr
    obtain ⟨x2,w2,a2,hr2,rfl⟩:=readL_some hr1
    obtain rfl:=readL_nil hr2
    obtain ⟨b1,c1⟩:=readN (by decide) a1
    obtain ⟨b2,c2⟩:=readK a2
    obtain ⟨c2,d2⟩:=c2
    refine ⟨?_,?_,?_,?_⟩
    · simp [wordsS,evS,wn,wb,joinS,nmJ,nmR,nmL,nmA,nmF,nmO,nmK,nmS,nmT,nmD,nmP,nmM,nmG,b1,b2]
    · simp [okE,evS,wn,wb,okI,nmJ,nmR,nmL,nmA,nmF,nmO,nmK,nmS,nmT,nmD,nmP,nmM,nmG] at * <;> omega
    · simp [evS,wb,nmJ,nmR,nmL,nmA,nmF,nmO,nmK,nmS,nmT,nmD,nmP,nmM,nmG] <;> omega
    · simp [evS,wb,nmJ,nmR,nmL,nmA,nmF,nmO,nmK,nmS,nmT,nmD,nmP,nmM,nmG] <;> omega
  · obtain ⟨p1,p2,p3,rfl⟩:=len3 hl
    obtain ⟨x1,w1,a1,hr1,rfl⟩:=readL_some hr
    obtain ⟨x2,w2,a2,hr2,rfl⟩:=readL_some hr1
    obtain ⟨x3,w3,a3,hr3,rfl⟩:=readL_some hr2
    obtain rfl:=readL_nil hr3
    obtain ⟨b1,c1⟩:=readN (by decide) a1
    obtain ⟨b2,c2⟩:=readN (by decide) a2
    obtain ⟨b3,c3⟩:=readN (by decide) a3
    refine ⟨?_,?_,?_,?_⟩
    · simp [wordsS,evS,wn,wb,joinS,nmJ,nmR,nmL,nmA,nmF,nmO,nmK,nmS,nmT,nmD,nmP,nmM,nmG,b1,b2,b3]
    · simp [okE,evS,wn,wb,okI,nmJ,nmR,nmL,nmA,nmF,nmO,nmK,nmS,nmT,nmD,nmP,nmM,nmG] at * <;> omega
    · simp [evS,wb,nmJ,nmR,nmL,nmA,nmF,nmO,nmK,nmS,nmT,nmD,nmP,nmM,nmG] <;> omega
    · simp [evS,wb,nmJ,nmR,nmL,nmA,nmF,nmO,nmK,nmS,nmT,nmD,nmP,nmM,nmG] <;> omega
  · obtain ⟨p1,rfl⟩:=len1 hl
    obtain ⟨x1,w1,a1,hr1,rfl⟩:=readL_some hr
    obtain rfl:=readL_nil hr1
    obtain ⟨b1,c1⟩:=readN (by decide) a1
    refine ⟨?_,?_,?_,?_⟩
    · simp [wordsS,evS,wn,wb,joinS,nmJ,nmR,nmL,nmA,nmF,nmO,nmK,nmS,nmT,nmD,nmP,nmM,nmG,b1]
    · simp [okE,evS,wn,wb,okI,nmJ,nmR,nmL,nmA,nmF,nmO,nmK,nmS,nmT,nmD,nmP,nmM,nmG] at * <;> omega
    · simp [evS,wb,nmJ,nmR,nmL,nmA,nmF,nmO,nmK,nmS,nmT,nmD,nmP,nmM,nmG] <;> omega
    · simp [evS,wb,nmJ,nmR,nmL,nmA,nmF,nmO,nmK,nmS,nmT,nmD,nmP,nmM,nmG] <;> omega
  · obtain ⟨p1,rfl⟩:=len1 hl
    obtain ⟨x1,w1,a1,hr1,rfl⟩:=readL_some hr
    obtain rfl:=readL_nil hr1
    obtain ⟨b1,c1⟩:=readN (by decide) a1
    refine ⟨?_,?_,?_,?_⟩
    · simp [wordsS,evS,wn,wb,joinS,nmJ,nmR,nmL,nmA,nmF,nmO,nmK,nmS,nmT,nmD,nmP,nmM,nmG,b1]
    · simp [okE,evS,wn,wb,okI,nmJ,nmR,nmL,nmA,nmF,nmO,nmK,nmS,nmT,nmD,nmP,nmM,nmG] at * <;> omega
    · simp [evS,wb,nmJ,nmR,nmL,nmA,nmF,nmO,nmK,nmS,nmT,nmD,nmP,nmM,nmG] <;> omega
    · simp [evS,wb,nmJ,nmR,nmL,nmA,nmF,nmO,nmK,nmS,nmT,nmD,nmP,nmM,nmG] <;> omega
  · obtain ⟨p1,p2,rfl⟩:=len2 hl
    obtain ⟨x1,w1,a1,hr1,rfl⟩:=readL_some hr
    obtain ⟨x2,w2,a2,hr2,rfl⟩:=readL_some hr1
    obtain rfl:=readL_nil hr2
    obtain ⟨b1,c1⟩:=readN (by decide) a1
    obtain ⟨b2,c2⟩:=readN (by decide) a2
    refine ⟨?_,?_,?_,?_⟩
    · simp [wordsS,evS,wn,wb,joinS,nmJ,nmR,nmL,nmA,nmF,nmO,nmK,nmS,nmT,nmD,nmP,nmM,nmG,b1,b2]
    · simp [okE,evS,wn,wb,okI,nmJ,nmR,nmL,nmA,nmF,nmO,nmK,nmS,nmT,nmD,nmP,nmM,nmG] at * <;> omega
    · simp [evS,wb,nmJ,nmR,nmL,nmA,nmF,nmO,nmK,nmS,nmT,nmD,nmP,nmM,nmG] <;> omega
    · simp [evS,wb,nmJ,nmR,nmL,nmA,nmF,nmO,nmK,nmS,nmT,nmD,nmP,nmM,nmG] <;> omega
  · obtain ⟨p1,p2,rfl⟩:=len2 hl
    obtain ⟨x1,w1,a1,hr1,rfl⟩:=readL_some hr
    obtain ⟨x2,w2,a2,hr2,rfl⟩:=readL_some hr1
    obtain rfl:=readL_nil hr2
    obtain ⟨b1,c1⟩:=readN (by decide) a1
    obtain ⟨b2,c2⟩:=readN (by decide) a2
    refine ⟨?_,?_,?_,?_⟩
    · simp [wordsS,evS,wn,wb,joinS,nmJ,nmR,nmL,nmA,nmF,nmO,nmK,nmS,nmT,nmD,nmP,nmM,nmG,b1,b2]
    · simp [okE,evS,wn,wb,okI,nmJ,nmR,nmL,nmA,nmF,nmO,nmK,nmS,nmT,nmD,nmP,nmM,nmG] at * <;> omega
    · simp [evS,wb,nmJ,nmR,nmL,nmA,nmF,nmO,nmK,nmS,nmT,nmD,nmP,nmM,nmG] <;> omega
    · simp [evS,wb,nmJ,nmR,nmL,nmA,nmF,nmO,nmK,nmS,nmT,nmD,nmP,nmM,nmG] <;> omega
  · obtain ⟨p1,p2,p3,p4,rfl⟩:=len4 hl
    obtain ⟨x1,w1,a1,hr1,rfl⟩:=readL_some hr
    obtain ⟨x2,w2,a2,hr2,rfl⟩:=readL_some hr1
    obtain ⟨x3,w3,a3,hr3,rfl⟩:=readL_some hr2
    obtain ⟨x4,w4,a4,hr4,rfl⟩:=readL_some hr3
    obtain rfl:=readL_nil hr4
    obtain ⟨b1,c1⟩:=readN (by decide) a1
    obtain ⟨b2,c2⟩:=readN (by decide) a2
    obtain ⟨b3,c3⟩:=readH a3
    obtain ⟨b4,c4⟩:=readT a4
    obtain ⟨c4,d4⟩:=c4
    refine ⟨?_,?_,?_,?_⟩
    · simp [wordsS,evS,wn,wb,joinS,nmJ,nmR,nmL,nmA,nmF,nmO,nmK,nmS,nmT,nmD,nmP,nmM,nmG,b1,b2,b3,b4]
    · simp [okE,evS,wn,wb,okI,nmJ,nmR,nmL,nmA,nmF,nmO,nmK,nmS,nmT,nmD,nmP,nmM,nmG] at * <;> omega
    · simp [evS,wb,nmJ,nmR,nmL,nmA,nmF,nmO,nmK,nmS,nmT,nmD,nmP,nmM,nmG] <;> omega
    · simp [evS,wb,nmJ,nmR,nmL,nmA,nmF,nmO,nmK,nmS,nmT,nmD,nmP,nmM,nmG] <;> omega
theorem line_has {s:List UInt8} {e:EvT} (h:lineS s = .inl e):wordsS e = s ∧ okE e ∧ hasLn e = true:=by
  obtain ⟨h1,h2,h3,h4⟩:=line_back h
  refine ⟨h1,h2,?_⟩
  unfold hasLn
  rw [h1,dec_t h3,dec_t h4,dec_t h];rfl
end Go.SH
namespace Go.SH
theorem hasLn_line {e:EvT} (h:hasLn e = true):lineS (wordsS e) = .inl e:=by
  unfold hasLn at h
  simp only [Bool.and_eq_true,decide_eq_true_eq] at h
  exact h.2.2
theorem parseS_fuel:∀ (f g n:Nat) (s:List UInt8),s.length < f → s.length < g → parseS f n s = parseS g n s:=by
  intro f
  induction f with
  | zero=>intro g n s h;omega
  | succ f ih=>
    intro g n s hf hg
    cases g with
    | zero=>omega
    | succ g=>
      unfold parseS
      by_cases h0:s = []
      · simp [h0]
      · rw [if_neg h0,if_neg h0]
        by_cases h1:(bef 10 s).length > 3100 ∨ n > 1000
        · rw [if_pos h1,if_pos h1]
        · rw [if_neg h1,if_neg h1]
          by_cases h10:(10:UInt8) ∈ s
          · have:=lens h10
            rw [if_neg (fun h=>h h10),if_neg (fun h=>h h10)]
            rw [ih g (n + 1) (aft 10 s) (by omega) (by omega)]
          · rw [if_pos h10,if_pos h10]
def PN (n:Nat) (s:List UInt8):List EvT ⊕ (Nat × Nat):=parseS (s.length + 1) n s
theorem PN_nil (n:Nat):PN n [] = .inl []:=rfl
theorem PN_long {n:Nat} {s:List UInt8} (h0:s ≠ []) (h:(bef 10 s).length > 3100 ∨ n > 1000):PN n s = .inr (n,3):=by unfold PN parseS;rw [if_neg h0,if_pos h]
theorem PN_step {n:Nat} {e:EvT} {s:List UInt8} (h0:s ≠ []) (h:¬ ((bef 10 s).length > 3100 ∨ n > 1000)) (h10:(10:UInt8) ∈ s) (hl:lineS (bef 10 s) = .inl e):PN n s = match PN (n + 1) (aft 10 s) with
    | .inl l=>.inl (e :: l)
    | .inr x=>.inr x:=by
  have:=lens h10
  unfold PN
  conv=>lhs;unfold parseS
  rw [if_neg h0,if_neg h,if_neg (fun h=>h h10),hl,parseS_fuel s.length ((aft 10 s).length + 1) (n + 1) (aft 10 s) (by omega) (by omega)]
  all_goals (cases parseS ((aft 10 s).length + 1) (n + 1) (aft 10 s) <;> rfl)
theorem PS_PN (s:List UInt8):PS s = PN 1 s:=rfl
end Go.SH
namespace Go.SH
variable [SentA]
theorem Pure.of_calls {E:Env} {f:FuncId} {args:List PV} {v:PV} (h:∀ (A:Nat → Prop) w σ (cargs:List Value),cargs.length = args.length → (∀ (i:Nat) (x:PV) (u:Value),args[i]? = some x → cargs[i]? = some u → VR w σ (avo A σ []) x u) →
    (∀ g cells,lget E.G g = some cells → VR w σ (avo A σ []) (.rop cells 0) (.pointer (some ⟨g,0,none⟩))) →
    Calls E.P f cargs.toArray w fun e w'=>∃ c,e = .returned c ∧ VR w' sig0 (avo A sig0 []) v c ∧ w.heap.size ≤ w'.heap.size ∧ (∀ β,β < w.heap.size → w'.heap[β]? = w.heap[β]?) ∧ (w'.os = w.os ∧ w'.output = w.output ∧ w'.tape = w.tape)):Pure E f args v:=by
  intro A w σ cargs hl hv hbr hg
  refine (h A w σ cargs hl hv hg).mono fun e w' ⟨c,he,hvr,hs,hh,ho⟩=>⟨v,c,[],sig0,he,⟨rfl,rfl⟩,hvr,BR0 fun β hA=>Nat.lt_of_lt_of_le (hbr.lo β hA).1 hs,⟨hs,fun l y hk=>absurd rfl hk,fun β hb hn=>⟨avz,hh β hb⟩,ho,fun hk=>absurd rfl hk⟩⟩
theorem VR.int_inv {w:World} {σ:Sig} {av:Nat → Prop} {k:IntKind} {n:Int} {v:Value} (h:VR w σ av (.int k n) v):v = .int k n:=by cases h;rfl
theorem VR.str_inv {w:World} {σ:Sig} {av:Nat → Prop} {l:List UInt8} {v:Value} (h:VR w σ av (.str l) v):v = .string ⟨⟨l⟩⟩:=by cases h;rfl
theorem VR.ev_inv {w:World} {σ:Sig} {av:Nat → Prop} {T:TypeId} {o:Option Addr} {v:Value} (h:VR w σ av (.ev T o) v):v = evV T o ∧ ∀ a,o = some a → EvA w av a:=by cases h with | ev _ _ h=>exact ⟨rfl,h⟩
/-- What a block's first cell is, where the block is known. -/
theorem xc_cell {w:World} {σ:Sig} {av:Nat → Prop} {g:Nat} {cs:List Value} (h:VR w σ av (.rop [.xc g cs] 0) (.pointer (some ⟨g,0,none⟩))):∃ T fr,w.heap[g]? = some (.cells cs.toArray T fr):=by
  generalize hv:Value.pointer (some ⟨g,0,none⟩) = v at h
  cases h with
  | @rop _ _ β add cs' him hl hcv=>
    simp at hl
    obtain ⟨v0,e⟩:∃ v0,cs'[0]? = some v0:=⟨cs'[0],List.getElem?_eq_getElem (by omega)⟩
    have:=hcv 0 (.xc g cs) v0 rfl e
    cases this with
    | xc _ _ T fr _ _ _ hh=>exact ⟨T,fr,hh⟩
end Go.SH
namespace Go.Proofs
open Go.Shelf
def Tryd.lays137_ren:Go.Shelf.Ren:=⟨fun | 137=>82 | 217=>75 | 266=>89 | n=>n,fun | 9=>9 | 5=>5 | 3=>3 | n=>n,fun | n=>n⟩
theorem Tryd.lays137:Go.Proofs.Lays.n137 Tryd.prog Tryd.lays137_ren:={
  mixed:=by kernel_rfl
  f137:=Tryd.func82.trans (congrArg some (by kernel_rfl))
  f217:=Tryd.func75.trans (congrArg some (by kernel_rfl))
  f266:=Tryd.func89.trans (congrArg some (by kernel_rfl))
  t3:=Tryd.underlying3
  a3:=Tryd.isAgg3
  z3:=Tryd.sizeOf3
  v3:=Tryd.zeroValue3
  t5:=Tryd.underlying5
  a5:=Tryd.isAgg5
  z5:=Tryd.sizeOf5
  v5:=Tryd.zeroValue5
  t9:=Tryd.underlying9
  a9:=Tryd.isAgg9
  z9:=Tryd.sizeOf9
  v9:=Tryd.zeroValue9 }
open Go.RowKit in
theorem Tryd.strings_IndexByte (s:ByteArray) (c:Int) (w:World) :
    Calls Tryd.prog 82 #[.string s,.int .u8 c] w fun e w'=>e = .returned (.int .i64 (Lib.indexByte s.data.toList c.toNat.toUInt8)) ∧ w' = w:=Any.strings_IndexByte Tryd.lays137 s c w
def Tryd.laysM171_ren:Go.Shelf.Ren:=⟨fun | 171=>32 | 243=>58 | 246=>72 | 283=>85 | 284=>86 | 285=>87 | 286=>88 | 129=>95 | 317=>94 | 318=>96 | 319=>97 | 320=>98 | 337=>100 | 338=>101 | n=>n,fun | 3=>3 | 9=>9 | 2=>2 | 4=>4 | 171=>154 | 0=>0 | 53=>155 | 37=>50 | 5=>5 | 173=>158 | 212=>166 | 51=>160 | 20=>20 | 213=>167 | 46=>151 | 232=>174 | 233=>175 | n=>n,fun | 17=>7 | 18=>10 | 19=>11 | n=>n⟩
theorem Tryd.laysM171:Go.Proofs.LaysM.n171 Tryd.prog Tryd.laysM171_ren:={
  mixed:=by kernel_rfl
  f129:=Tryd.func95.trans (congrArg some (by kernel_rfl))
  f171:=Tryd.func32.trans (congrArg some (by kernel_rfl))
  f243:=Tryd.func58.trans (congrArg some (by kernel_rfl))
  f246:=Tryd.func72.trans (congrArg some (by kernel_rfl))
  f283:=Tryd.func85.trans (congrArg some (by kernel_rfl))
  f284:=Tryd.func86.trans (congrArg some (by kernel_rfl))
  f285:=Tryd.func87.trans (congrArg some (by kernel_rfl))
  f286:=Tryd.func88.trans (congrArg some (by kernel_rfl))
  f317:=Tryd.func94.trans (congrArg some (by kernel_rfl))
  f318:=Tryd.func96.trans (congrArg some (by kernel_rfl))
  f319:=Tryd.func97.trans (congrArg some (by kernel_rfl))
  f320:=Tryd.func98.trans (congrArg some (by kernel_rfl))
  f337:=Tryd.func100.trans (congrArg some (by kernel_rfl))
  f338:=Tryd.func101.trans (congrArg some (by kernel_rfl))
  t0:=Tryd.underlying0
  a0:=Tryd.isAgg0
  z0:=Tryd.sizeOf0
  v0:=Tryd.zeroValue0
  t2:=Tryd.underlying2
  a2:=Tryd.isAgg2
  z2:=Tryd.sizeOf2
  v2:=Tryd.zeroValue2
  t3:=Tryd.underlying3
  a3:=Tryd.isAgg3
  z3:=Tryd.sizeOf3
  v3:=Tryd.zeroValue3
  t4:=Tryd.underlying4
  a4:=Tryd.isAgg4
  z4:=Tryd.sizeOf4
  v4:=Tryd.zeroValue4
  t5:=Tryd.underlying5
  a5:=Tryd.isAgg5
  z5:=Tryd.sizeOf5
  v5:=Tryd.zeroValue5
  t9:=Tryd.underlying9
  a9:=Tryd.isAgg9
  z9:=Tryd.sizeOf9
  v9:=Tryd.zeroValue9
  t20:=Tryd.underlying20
  a20:=Tryd.isAgg20
  z20:=Tryd.sizeOf20
  v20:=Tryd.zeroValue20
  t37:=Tryd.underlying50
  a37:=Tryd.isAgg50
  z37:=Tryd.sizeOf50
  v37:=Tryd.zeroValue50
  t46:=Tryd.underlying151
  a46:=Tryd.isAgg151
  z46:=Tryd.sizeOf151
  v46:=Tryd.zeroValue151
  t51:=Tryd.underlying160
  a51:=Tryd.isAgg160
  z51:=Tryd.sizeOf160
  v51:=Tryd.zeroValue160
  t53:=Tryd.underlying155
  a53:=Tryd.isAgg155
  z53:=Tryd.sizeOf155
  v53:=Tryd.zeroValue155
  t171:=Tryd.underlying154
  a171:=Tryd.isAgg154
  z171:=Tryd.sizeOf154
  v171:=Tryd.zeroValue154
  t173:=Tryd.underlying158
  a173:=Tryd.isAgg158
  z173:=Tryd.sizeOf158
  v173:=Tryd.zeroValue158
  t212:=Tryd.underlying166
  a212:=Tryd.isAgg166
  z212:=Tryd.sizeOf166
  v212:=Tryd.zeroValue166
  t213:=Tryd.underlying167
  a213:=Tryd.isAgg167
  z213:=Tryd.sizeOf167
  t232:=Tryd.underlying174
  a232:=Tryd.isAgg174
  z232:=Tryd.sizeOf174
  v232:=Tryd.zeroValue174
  t233:=Tryd.underlying175
  a233:=Tryd.isAgg175
  z233:=Tryd.sizeOf175
  v233:=Tryd.zeroValue175
  g17:=by kernel_rfl
  g18:=by kernel_rfl
  g19:=by kernel_rfl
  i0:=by kernel_rfl
  i2:=by kernel_rfl
  i3:=by kernel_rfl
  i4:=by kernel_rfl
  i5:=by kernel_rfl
  i9:=by kernel_rfl
  i20:=by kernel_rfl
  i37:=by kernel_rfl
  i46:=by kernel_rfl
  i51:=by kernel_rfl
  i53:=by kernel_rfl
  i171:=by kernel_rfl
  i173:=by kernel_rfl
  i212:=by kernel_rfl
  i232:=by kernel_rfl
  i233:=by kernel_rfl
  m17:=by kernel_rfl
  m18:=by kernel_rfl
  m19:=by kernel_rfl }
open Go.RowKit Go.Sort Go.Lib in
theorem Tryd.strconv_Itoa (n:Int) (h0:-9223372036854775808 ≤ n) (h1:n ≤ 9223372036854775807) (w:World) (htab:Lib.TabIs Tryd.prog w "internal/strconv.uint64pow10" .u64 Lib.pow10Tab) :
    Calls Tryd.prog 32 #[.int .i64 n] w fun e w'=>e = .returned (.string ⟨(Lib.itoa n).toArray⟩) ∧ ∃ k os,w' = grow (w.drewN k) os:=Any.strconv_Itoa Tryd.laysM171 n h0 h1 w htab
def Tryd.lays217_ren:Go.Shelf.Ren:=⟨fun | 217=>75 | 266=>89 | n=>n,fun | 9=>9 | 5=>5 | 3=>3 | n=>n,fun | n=>n⟩
theorem Tryd.lays217:Go.Proofs.Lays.n217 Tryd.prog Tryd.lays217_ren:={
  mixed:=by kernel_rfl
  f217:=Tryd.func75.trans (congrArg some (by kernel_rfl))
  f266:=Tryd.func89.trans (congrArg some (by kernel_rfl))
  t3:=Tryd.underlying3
  a3:=Tryd.isAgg3
  z3:=Tryd.sizeOf3
  v3:=Tryd.zeroValue3
  t5:=Tryd.underlying5
  a5:=Tryd.isAgg5
  z5:=Tryd.sizeOf5
  v5:=Tryd.zeroValue5
  t9:=Tryd.underlying9
  a9:=Tryd.isAgg9
  z9:=Tryd.sizeOf9
  v9:=Tryd.zeroValue9 }
open Go.RowKit Go.Lib in
theorem Tryd.stringslite_IndexByte (s:ByteArray) (c:Int) (w:World) :
    Calls Tryd.prog 75 #[.string s,.int .u8 c] w fun e w'=>e = .returned (.int .i64 (Lib.indexByte s.data.toList c.toNat.toUInt8)) ∧ w' = w:=Any.stringslite_IndexByte Tryd.lays217 s c w
end Go.Proofs
set_option maxRecDepth 100000
set_option maxHeartbeats 1000000
namespace Go.Proofs.Sp
open Go.RowKit Go.Extern.Stop Go.Stop Go.Extern
theorem isTypeOf (v:Value) (w:World):(callFunc 33 #[.iface 71 v]).run Tryd.prog w = .ok (.value (.iface 121 (.agg #[.pointer (some ⟨12,71,none⟩)]))) w:=by kernel_rfl
theorem isComparable (w:World):(callFunc 126 #[.agg #[.pointer (some ⟨12,71,none⟩)]]).run Tryd.prog w = .ok (.value (.bool true)) w:=by kernel_rfl
theorem isMethodComparable (v:Value) (w:World):(Go.method 303 121 v "Comparable").run Tryd.prog w = .ok (126,v) w:=by kernel_rfl
theorem isComp:(Tryd.prog.info? 71).map (·.comparable) = some true:=by kernel_rfl
theorem isSize:(Tryd.prog.info? 73).map (·.size) = some 1:=by kernel_rfl
theorem noIsE (v:Value) (xT:TypeId) (w:World):(Instr.typeAssert (.iface 71 v) xT 123 true).run Tryd.prog w = .ok (.tuple #[.nilIface,.bool false]) w:=run_typeAssert_lacksB Tryd.underlying123 (by kernel_rfl) (by kernel_rfl) v xT w
theorem noUnwrapE (v:Value) (xT:TypeId) (w:World):(Instr.typeAssert (.iface 71 v) xT 125 true).run Tryd.prog w = .ok (.tuple #[.nilIface,.bool false]) w:=run_typeAssert_lacksB Tryd.underlying125 (by kernel_rfl) (by kernel_rfl) v xT w
theorem noUnwrapsE (v:Value) (xT:TypeId) (w:World):(Instr.typeAssert (.iface 71 v) xT 126 true).run Tryd.prog w = .ok (.tuple #[.nilIface,.bool false]) w:=run_typeAssert_lacksB Tryd.underlying126 (by kernel_rfl) (by kernel_rfl) v xT w
theorem noIsW (v:Value) (xT:TypeId) (w:World):(Instr.typeAssert (.iface 35 v) xT 123 true).run Tryd.prog w = .ok (.tuple #[.nilIface,.bool false]) w:=run_typeAssert_lacksB Tryd.underlying123 (by kernel_rfl) (by kernel_rfl) v xT w
theorem hasUnwrapW (v:Value) (xT:TypeId) (w:World):(Instr.typeAssert (.iface 35 v) xT 125 true).run Tryd.prog w = .ok (.tuple #[.iface 35 v,.bool true]) w:=run_typeAssert_hasB Tryd.underlying125 (by kernel_rfl) v xT w
theorem methodUnwrap (v:Value) (w:World):(Go.method 303 35 v "Unwrap").run Tryd.prog w = .ok (18,v) w:=by kernel_rfl
theorem is_same (a:Addr) (w:World) :
    Calls Tryd.prog 21 #[.iface 71 (.pointer (some a)),.iface 71 (.pointer (some a))] w fun e w'=>e = .returned (.bool true) ∧ w' = w:=by
  obtain ⟨i,hi,hcmp⟩:=Option.map_eq_some_iff.1 isComp
  obtain ⟨j,hj,hjs⟩:=Option.map_eq_some_iff.1 isSize
  have tT:=isTypeOf
  have cT:=isComparable
  have mR:=isMethodComparable
  have heq:=run_eql_iface_ptr_same (P:=Tryd.prog) w a Tryd.underlying25 Tryd.underlying71 hi hcmp hj
  go_enter Tryd.func21,Tryd.ntmps21
  go_wp2
  refine wp_loop_rounds 1 ?_
  rw [rounds_succ]
  go_wp2
  go_ret
  exact ⟨rfl,rfl⟩
theorem is_nil (b:Addr) (w:World) :
    Calls Tryd.prog 21 #[.nilIface,.iface 71 (.pointer (some b))] w fun e w'=>e = .returned (.bool false) ∧ w' = w:=by
  have hn:=run_eql_iface_nil_left (P:=Tryd.prog) w 71 (.pointer (some b)) Tryd.underlying25
  go_enter Tryd.func21,Tryd.ntmps21
  go_wp2
  go_ret
  exact ⟨rfl,rfl⟩
theorem is_other (a b:Addr) (ca cb:Array Value) (ta tb:TypeId) (w:World) (hne:a ≠ b) (ha:w.heap[a.block]? = some (.cells ca ta (0,0))) (hb:w.heap[b.block]? = some (.cells cb tb (0,0))) :
    Calls Tryd.prog 21 #[.iface 71 (.pointer (some a)),.iface 71 (.pointer (some b))] w fun e w'=>e = .returned (.bool false) ∧ w' = w:=by
  obtain ⟨i,hi,hcmp⟩:=Option.map_eq_some_iff.1 isComp
  obtain ⟨j,hj,hjs⟩:=Option.map_eq_some_iff.1 isSize
  have tT:=isTypeOf
  have cT:=isComparable
  have mR:=isMethodComparable
  have nE:=noIsE
  have uE:=noUnwrapE
  have vE:=noUnwrapsE
  have heq:=run_eql_iface_ptr_other (P:=Tryd.prog) w Tryd.underlying25 Tryd.underlying71 hi hcmp hj (by rw [hjs];decide) hne ha hb
  go_enter Tryd.func21,Tryd.ntmps21
  go_wp2
  refine wp_loop_rounds 1 ?_
  rw [rounds_succ]
  go_wp2
  go_ret
  exact ⟨rfl,rfl⟩
theorem is_wrap_same (pb po:Nat) (b:Addr) (w:World) (h1:w.cell? ⟨pb,po + 1,none⟩ = some (.iface 71 (.pointer (some b)))) :
    Calls Tryd.prog 21 #[.iface 35 (.pointer (some ⟨pb,po,none⟩)),.iface 71 (.pointer (some b))] w fun e w'=>e = .returned (.bool true) ∧ w' = w:=by
  obtain ⟨i,hi,hcmp⟩:=Option.map_eq_some_iff.1 isComp
  obtain ⟨j,hj,hjs⟩:=Option.map_eq_some_iff.1 isSize
  have tT:=isTypeOf
  have cT:=isComparable
  have mR:=isMethodComparable
  have nE:=noIsE
  have uE:=noUnwrapE
  have vE:=noUnwrapsE
  have nW:=noIsW
  have uW:=hasUnwrapW
  have mU:=methodUnwrap
  have heq:=run_eql_iface_ptr_same (P:=Tryd.prog) w b Tryd.underlying25 Tryd.underlying71 hi hcmp hj
  have hty:=run_eql_iface_types (P:=Tryd.prog) 35 71 (.pointer (some ⟨pb,po,none⟩)) (.pointer (some b)) Tryd.underlying25 (by decide) w
  go_enter Tryd.func21,Tryd.ntmps21
  go_wp2
  refine wp_loop_rounds 2 ?_
  rw [rounds_succ]
  go_wp2
  rw [rounds_succ]
  go_wp2
  go_ret
  exact ⟨rfl,rfl⟩
theorem is_wrap_nil (pb po:Nat) (b:Addr) (w:World) (h1:w.cell? ⟨pb,po + 1,none⟩ = some .nilIface) :
    Calls Tryd.prog 21 #[.iface 35 (.pointer (some ⟨pb,po,none⟩)),.iface 71 (.pointer (some b))] w fun e w'=>e = .returned (.bool false) ∧ w' = w:=by
  obtain ⟨i,hi,hcmp⟩:=Option.map_eq_some_iff.1 isComp
  obtain ⟨j,hj,hjs⟩:=Option.map_eq_some_iff.1 isSize
  have tT:=isTypeOf
  have cT:=isComparable
  have mR:=isMethodComparable
  have nW:=noIsW
  have uW:=hasUnwrapW
  have mU:=methodUnwrap
  have hty:=run_eql_iface_types (P:=Tryd.prog) 35 71 (.pointer (some ⟨pb,po,none⟩)) (.pointer (some b)) Tryd.underlying25 (by decide) w
  go_enter Tryd.func21,Tryd.ntmps21
  go_wp2
  refine wp_loop_rounds 1 ?_
  rw [rounds_succ]
  go_wp2
  go_ret
  exact ⟨rfl,rfl⟩
theorem is_wrap_other (pb po:Nat) (b a:Addr) (ca cb:Array Value) (ta tb:TypeId) (w:World) (h1:w.cell? ⟨pb,po + 1,none⟩ = some (.iface 71 (.pointer (some a)))) (hne:a ≠ b) (ha:w.heap[a.block]? = some (.cells ca ta (0,0))) (hb:w.heap[b.block]? = some (.cells cb tb (0,0))) :
    Calls Tryd.prog 21 #[.iface 35 (.pointer (some ⟨pb,po,none⟩)),.iface 71 (.pointer (some b))] w fun e w'=>e = .returned (.bool false) ∧ w' = w:=by
  obtain ⟨i,hi,hcmp⟩:=Option.map_eq_some_iff.1 isComp
  obtain ⟨j,hj,hjs⟩:=Option.map_eq_some_iff.1 isSize
  have tT:=isTypeOf
  have cT:=isComparable
  have mR:=isMethodComparable
  have nE:=noIsE
  have uE:=noUnwrapE
  have vE:=noUnwrapsE
  have nW:=noIsW
  have uW:=hasUnwrapW
  have mU:=methodUnwrap
  have heq:=run_eql_iface_ptr_other (P:=Tryd.prog) w Tryd.underlying25 Tryd.underlying71 hi hcmp hj (by rw [hjs];decide) hne ha hb
  have hty:=run_eql_iface_types (P:=Tryd.prog) 35 71 (.pointer (some ⟨pb,po,none⟩)) (.pointer (some b)) Tryd.underlying25 (by decide) w
  go_enter Tryd.func21,Tryd.ntmps21
  go_wp2
  refine wp_loop_rounds 2 ?_
  rw [rounds_succ]
  go_wp2
  rw [rounds_succ]
  go_wp2
  go_ret
  exact ⟨rfl,rfl⟩
end Go.Proofs.Sp
