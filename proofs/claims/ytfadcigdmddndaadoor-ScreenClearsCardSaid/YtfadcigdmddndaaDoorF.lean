/- ScreenClears: behind erasing all, the page that is shown is blanks of the pen's Back, and cursor, pen, margins and modes are as they were; of a new screen of at most 20 rows and columns behind at most 40 changes with lists of at most 200. -/
import Derived.Test.YtfadcigdmddndaaDoorE
import Derived.Test.YtfadcigdmddndaaDoorRows
import Derived.KernelRfl
import Derived.ProofKit
import Derived.LaidMore
import Derived.OpenShut
import Derived.Stop.Joined
import Derived.Lib.LaidTab
import Derived.Lib.SmallJoins
import Derived.Test.YtfadcigdmddndaaDoorTie
import Derived.Test.YtfadcigdmddndaaDoorCards
import Derived.SevenTiedAt
set_option linter.unusedVariables false
set_option linter.unusedSimpArgs false
namespace Go.SH
theorem eI_ints (k:IntKind) (zs:List Int):fl (eI k) zs = zs.map (PV.int k):=by
  induction zs with
  | nil=>rfl
  | cons z r ih=>rw [fl_cons,ih];rfl
theorem chunks {α:Type} (s:Nat):∀ (n:Nat) (cs:List α) (f:Nat → List α),cs.length = n * s → (∀ i,i < n → (cs.drop (i * s)).take s = f i) → cs = (List.range n).flatMap f
  | 0,cs,f,h,_=>by simp at h;simp [h]
  | n + 1,cs,f,h,hf=>by
    have h0:=hf 0 (by omega)
    simp only [Nat.zero_mul,List.drop_zero] at h0
    have ih:=chunks s n (cs.drop s) (fun i=>f (i + 1)) (by rw [List.length_drop,h,Nat.succ_mul];omega) (fun i hi=>by
      have:=hf (i + 1) (by omega)
      rw [List.drop_drop,← this];congr 2;rw [Nat.succ_mul];omega)
    rw [List.range_succ_eq_map,List.flatMap_cons,List.flatMap_map,← ih,← h0,List.take_append_drop]
/-- An array of arrays of integers. -/
theorem cells_of_tab2 {H:Type} {enc:TypeId × Value → H} {P:Program} {w:World} {base:Nat} {sp:Nat → Bool} {held:Bool} {fuel:Nat} {t e e2:TypeId} {n s:Nat} {k:IntKind} {cs:List Value} {rows:List (List Int)} {p:List MemPlace}
    (ht:P.underlying t = some (.array n e)) (he:P.underlying e = some (.array s e2)) (he2:P.underlying e2 = some (.int k)) (hc2:P.cellsOf e2 = 1) (hce:P.cellsOf e = s) (hct:P.cellsOf t = n * s)
    (h:DataW.trod enc P w base sp held fuel t cs = some (.agg (rows.map (Lib.tabData k)),p)):cs = (List.range n).flatMap fun i=>(rows.getD i []).map (Value.int k):=by
  cases fuel with
  | zero=>simp [DataW.trod] at h
  | succ fuel=>
    simp only [DataW.trod,ht,hce,hct] at h
    split at h
    · rename_i hl
      obtain ⟨xs,hm,hx⟩:=Option.map_eq_some_iff.1 h
      have hxs:xs.map (·.1) = rows.map fun zs=>(Lib.tabData k zs:DataW H):=by
        have:=congrArg Prod.fst hx
        simpa using this
      have hxl:xs.length = n:=by simpa using Lib.mapM_length hm
      have hrl:rows.length = n:=by
        have:=congrArg List.length hxs
        simp at this
        omega
      refine chunks s n cs _ hl fun i hi=>?_
      obtain ⟨b,hb,hf⟩:=Lib.mapM_at hm i i (by simp [hi])
      have h2:(xs.map (·.1))[i]? = some b.1:=by simp [hb]
      rw [hxs] at h2
      simp only [List.getElem?_map,Option.map_eq_some_iff] at h2
      obtain ⟨zs,hz,hzb⟩:=h2
      obtain ⟨b1,b2⟩:=b
      simp only at hzb;subst hzb
      rw [List.getD_eq_getElem?_getD,hz,Option.getD_some]
      exact Lib.cells_of_tab he he2 hc2 hce hf
    · cases h
end Go.SH
namespace Go.Proofs.YtfadcigdmddndaaDoor
open Go.ChangeShapes Go.WideShapes Go.ChangeAt Go.RowKit Go.Joins Go.SH
theorem own:ownKnob Tryd.prog.godebug = none:=by kernel_rfl
theorem laidOut:laidOutB Tryd.prog = true:=by kernel_rfl
def flatB:List Int:=tab_bounds.flatMap fun e=>[e.1,e.2.1,e.2.2]
def flatD:List Int:=tab_dB64.map fun x=>(x.toNat:Int)
def laid2:List (String × DataW Unit):=[("math/bits.deBruijn64tab",Rows.laid_math_bits_deBruijn64tab),("oriel/cols.bounds",Rows.laid_oriel_cols_bounds)]
theorem gB:Tryd.prog.globalNamed "oriel/cols.bounds" = some 0:=by kernel_rfl
theorem tB:(Tryd.prog.globals[0]?).map (·.type) = some 106:=by kernel_rfl
theorem gD:Tryd.prog.globalNamed "math/bits.deBruijn64tab" = some 1:=by kernel_rfl
theorem tD:(Tryd.prog.globals[1]?).map (·.type) = some 137:=by kernel_rfl
def rowsB:List (List Int):=tab_bounds.map fun e=>[e.1,e.2.1,e.2.2]
theorem bounds_rows:(Rows.laid_oriel_cols_bounds:DataW Unit) = .agg (rowsB.map (Lib.tabData .i32)):=by kernel_rfl
theorem dB64_tab:(Rows.laid_math_bits_deBruijn64tab:DataW Unit) = Lib.tabData .u8 flatD:=by kernel_rfl
theorem bounds_flat:((List.range 22).flatMap fun i=>(rowsB.getD i []).map (Value.int .i32)) = flatB.map fun z=>Value.int .i32 z:=by kernel_rfl
theorem door_met (os:Os) (args:Array Value):laidMetH Tryd.prog laid2 ((World.doorLaid Tryd.prog 400 os).forCall (fun _ _=>0) ⟨#[],args,[]⟩).memory:=
  laidMetH_of_parts3 (fuel:=8) (laidMet_of_run' 8 (by kernel_rfl) (by kernel_rfl)) (by kernel_rfl) (by kernel_rfl)
theorem of_laid {W:World} (h:laidMetH Tryd.prog laid2 W):(∀ i,i < flatB.length → W.cell? ⟨0,i,none⟩ = some (.int .i32 (flatB.getD i 0))) ∧ ∀ i,i < flatD.length → W.cell? ⟨1,i,none⟩ = some (.int .u8 (flatD.getD i 0)):=by
  rw [MakeChecks.laidMetH_plain _ _ _ (by kernel_rfl)] at h
  obtain ⟨ps,⟨g0,t0,cs0,f0,p0,q0,hg0,ht0,hv0,hd0,⟨g1,t1,cs1,f1,p1,q1,hg1,ht1,hv1,hd1,_,_⟩,_⟩,_,_⟩:=h
  obtain rfl:=Option.some.inj (gD.symm.trans hg0)
  obtain rfl:=Option.some.inj (tD.symm.trans ht0)
  obtain rfl:=Option.some.inj (gB.symm.trans hg1)
  obtain rfl:=Option.some.inj (tB.symm.trans ht1)
  rw [dB64_tab] at hd0
  rw [bounds_rows] at hd1
  have hc0:cs0.toList = flatD.map fun z=>Value.int .u8 z:=Lib.cells_of_tab (k:=.u8) Tryd.underlying137 Tryd.underlying5 (by kernel_rfl) (by kernel_rfl) hd0
  have hc1:cs1.toList = flatB.map fun z=>Value.int .i32 z:=(cells_of_tab2 (k:=.i32) Tryd.underlying106 Tryd.underlying105 Tryd.underlying21 (by kernel_rfl) (by kernel_rfl) (by kernel_rfl) hd1).trans bounds_flat
  have i0:Lib.TabIs Tryd.prog W "math/bits.deBruijn64tab" .u8 flatD:=by unfold Lib.TabIs;rw [hv0,← hc0]
  have i1:Lib.TabIs Tryd.prog W "oriel/cols.bounds" .i32 flatB:=by unfold Lib.TabIs;rw [hv1,← hc1]
  exact ⟨fun i hi=>i1.cell gB i hi,fun i hi=>i0.cell gD i hi⟩
theorem cellsB:(gtPV GT) = [(0,flatB.map (PV.int .i32)),(1,flatD.map (PV.int .u8))]:=by kernel_rfl
theorem En_globals {W:World} (h:laidMetH Tryd.prog laid2 W):∀ g cells,lget En.G g = some cells → VR W sig0 av0 (.rop cells 0) (.pointer (some ⟨g,0,none⟩)):=by
  intro g cells hg
  obtain ⟨h1,h2⟩:=of_laid h
  have hz:∀ (g:Nat) (v:Value),W.cell? ⟨g,0,none⟩ = some v → g < W.heap.size:=by
    intro g v hv
    rcases Nat.lt_or_ge g W.heap.size with h' | h'
    · exact h'
    · simp [World.cell?,Array.getElem?_eq_none h'] at hv
  have hg':lget (gtPV GT) g = some cells:=hg
  rw [cellsB] at hg'
  simp only [lget] at hg'
  split at hg'
  · rename_i e;subst e
    simp at hg';subst hg'
    have:=vr_tab (k:=.i32) (hz 0 _ (h1 0 (by decide))) h1
    rw [eI_ints] at this;exact this
  · split at hg'
    · rename_i e;subst e
      simp at hg';subst hg'
      have:=vr_tab (k:=.u8) (hz 1 _ (h2 0 (by decide))) h2
      rw [eI_ints] at this;exact this
    · simp at hg'
end Go.Proofs.YtfadcigdmddndaaDoor
namespace Go.SH
/-- What the numbers of an input may be. -/
def ET.wf:(t:ET) → t.T → Prop
  | .ti k,x=>(Lit.int k x).wf = true
  | .tp a c,x=>a.wf x.1 ∧ c.wf x.2
  | .tl t,l=>(∀ x ∈ l,t.wf x) ∧ l.length ≤ maxLen
  | _,_=>True
def offsB (P:Program) (tot:Nat):Nat → List Field → Bool
  | o,[]=>o == tot
  | o,f :: r=>(f.offset == o) && offsB P tot (o + P.cellsOf f.type) r
/-- Types that stand for a kind: one, or a struct's, one behind the other. -/
inductive Fit (P:Program):ET → List TypeId → Prop where
  | int {k:IntKind} {τ:TypeId} (h:P.underlying τ = some (.int k)):Fit P (.ti k) [τ]
  | u8 {τ:TypeId} (h:P.underlying τ = some (.int .u8)):Fit P .tu [τ]
  | bool {τ:TypeId} (h:P.underlying τ = some .bool):Fit P .tb [τ]
  | slice {t:ET} {τ e:TypeId} (h:P.underlying τ = some (.slice e)) (hs:P.cellsOf e = t.sz) (f:Fit P t [e]):Fit P (.tl t) [τ]
  | struct {t:ET} {τ:TypeId} {fs:Array Field} (h:P.underlying τ = some (.struct fs)) (ho:offsB P (P.cellsOf τ) 0 fs.toList = true) (f:Fit P t (fs.toList.map (·.type))):Fit P t [τ]
  | array {t:ET} {τ e:TypeId} {n:Nat} (h:P.underlying τ = some (.array n e)) (hz:P.cellsOf τ = n * P.cellsOf e) (f:Fit P t (List.replicate n e)):Fit P t [τ]
  | cons {a c:ET} {τ τ':TypeId} {τs:List TypeId} (f:Fit P a [τ]) (g:Fit P c (τ' :: τs)):Fit P (.tp a c) (τ :: τ' :: τs)
section
variable {H:Type} {enc:TypeId × Value → H} {P:Program} {w:World} {base:Nat} {sp:Nat → Bool} {held:Bool}
/-- Cells that are read as types, one behind the other. -/
def Reads (enc:TypeId × Value → H) (P:Program) (w:World) (base:Nat) (sp:Nat → Bool) (held:Bool):List TypeId → List Value → Prop
  | [],cs=>cs = []
  | τ :: r,cs=>(∃ fuel x,DataW.trod enc P w base sp held fuel τ (cs.take (P.cellsOf τ)) = some x) ∧ Reads enc P w base sp held r (cs.drop (P.cellsOf τ))
theorem reads_one {τ:TypeId} {cs:List Value} (h:Reads enc P w base sp held [τ] cs):∃ fuel x,DataW.trod enc P w base sp held fuel τ cs = some x:=by
  obtain ⟨⟨f,x,hx⟩,hd⟩:=h
  have hd':cs.drop (P.cellsOf τ) = []:=hd
  have:cs.take (P.cellsOf τ) = cs:=List.take_of_length_le (by simpa using hd')
  rw [this] at hx
  exact ⟨f,x,hx⟩
theorem VRs.append {w:World} {σ:Sig} {av:Nat → Prop} {xs ys:List PV} {cs ds:List Value} (h:VRs w σ av xs cs) (h':VRs w σ av ys ds):VRs w σ av (xs ++ ys) (cs ++ ds):=by
  induction h with
  | nil=>exact h'
  | cons h _ ih=>exact .cons h ih
theorem reads_fields {n:Nat} {tot:Nat} {cs:List Value} (hl:cs.length = tot):∀ (l:List Field) (o:Nat),offsB P tot o l = true → (∀ f ∈ l,∃ x,DataW.trod enc P w base sp held n f.type ((cs.drop f.offset).take (P.cellsOf f.type)) = some x) →
    Reads enc P w base sp held (l.map (·.type)) (cs.drop o)
  | [],o,ho,_=>by
    have:o = tot:=by simpa [offsB] using ho
    show cs.drop o = []
    rw [this,← hl,List.drop_length]
  | f :: r,o,ho,h=>by
    simp only [offsB,Bool.and_eq_true,beq_iff_eq] at ho
    obtain ⟨rfl,ho⟩:=ho
    obtain ⟨x,hx⟩:=h f (by simp)
    refine ⟨⟨n,x,hx⟩,?_⟩
    have:=reads_fields hl r _ ho (fun g hg=>h g (by simp [hg]))
    rw [List.drop_drop]
    exact this
theorem reads_arr {m n:Nat} {e:TypeId} {cs:List Value} (hl:cs.length = n * P.cellsOf e) (h:∀ i,i < n → ∃ x,DataW.trod enc P w base sp held m e ((cs.drop (i * P.cellsOf e)).take (P.cellsOf e)) = some x) :
    ∀ (k i:Nat),i + k = n → Reads enc P w base sp held (List.replicate k e) (cs.drop (i * P.cellsOf e))
  | 0,i,hi=>by
    have:i = n:=by omega
    subst this
    show cs.drop _ = []
    rw [← hl,List.drop_length]
  | k + 1,i,hi=>by
    obtain ⟨x,hx⟩:=h i (by omega)
    refine ⟨⟨m,x,hx⟩,?_⟩
    have:=reads_arr hl h k (i + 1) (by omega)
    rw [List.drop_drop]
    rw [Nat.succ_mul] at this
    exact this
/-- Elements that lie one behind the other. -/
theorem elems_open {t:ET} {s β:Nat}:∀ (n off:Nat),(∀ i,i < n → ∃ (v:t.T) (cs:List Value),cs.length = s ∧ (∀ j,j < s → w.cell? ⟨β,off + (i * s + j),none⟩ = cs[j]?) ∧ VRs w sig0 av0 ((el t).pv v) cs ∧ t.wf v) →
    ∃ (l:List t.T) (cs:List Value),l.length = n ∧ cs.length = n * s ∧ (∀ j,j < n * s → w.cell? ⟨β,off + j,none⟩ = cs[j]?) ∧ VRs w sig0 av0 (fl (el t) l) cs ∧ ∀ x ∈ l,t.wf x
  | 0,off,_=>⟨[],[],rfl,by simp,fun j hj=>by simp at hj,.nil,fun x hx=>by simp at hx⟩
  | n + 1,off,h=>by
    obtain ⟨v,cs,h1,h2,h3,h4⟩:=h 0 (by omega)
    obtain ⟨l,ds,k1,k2,k3,k4,k5⟩:=elems_open n (off + s) fun i hi=>by
      obtain ⟨v',cs',q1,q2,q3⟩:=h (i + 1) (by omega)
      refine ⟨v',cs',q1,fun j hj=>?_,q3⟩
      rw [← q2 j hj]
      congr 2
      rw [Nat.succ_mul];omega
    refine ⟨v :: l,cs ++ ds,by simp [k1],by rw [List.length_append,h1,k2,Nat.succ_mul];omega,fun j hj=>?_,by rw [fl_cons];exact h3.append k4,fun x hx=>?_⟩
    · by_cases hj2:j < s
      · rw [List.getElem?_append_left (by omega),← h2 j hj2]
        congr 2;omega
      · rw [List.getElem?_append_right (by omega),h1,← k3 (j - s) (by rw [Nat.succ_mul] at hj;omega)]
        congr 2;omega
    · rcases List.mem_cons.1 hx with rfl | hx
      · exact h4
      · exact k5 x hx
theorem fit_open {t:ET} {τs:List TypeId} (hf:Fit P t τs):∀ {cs:List Value},Reads enc P w base sp held τs cs → ∃ v:t.T,VRs w sig0 av0 ((el t).pv v) cs ∧ t.wf v:=by
  induction hf with
  | int h=>
    intro cs hr
    obtain ⟨f,x,hx⟩:=reads_one hr
    obtain ⟨n,rfl,_,hw⟩:=DataW.trod_int h hx
    exact ⟨n,.cons (.int _ _) .nil,hw⟩
  | u8 h=>
    intro cs hr
    obtain ⟨f,x,hx⟩:=reads_one hr
    obtain ⟨n,rfl,_,hw⟩:=DataW.trod_int h hx
    have h1:IntKind.u8.min = 0:=rfl
    have h2:IntKind.u8.max = 255:=rfl
    simp only [Lit.wf,Bool.and_eq_true,decide_eq_true_eq,h1,h2] at hw
    refine ⟨UInt8.ofNat n.toNat,?_,trivial⟩
    have e:((UInt8.ofNat n.toNat).toNat:Int) = n:=by rw [UInt8.toNat_ofNat'];omega
    have:(el .tu).pv (UInt8.ofNat n.toNat) = [.int .u8 n]:=by
      show [PV.int .u8 ((UInt8.ofNat n.toNat).toNat:Int)] = _
      rw [e]
    rw [this]
    exact .cons (.int _ _) .nil
  | bool h=>
    intro cs hr
    obtain ⟨f,x,hx⟩:=reads_one hr
    obtain ⟨b,rfl,_⟩:=DataW.trod_bool h hx
    exact ⟨b,.cons (.bool _) .nil,trivial⟩
  | @slice t τ e h hs hf ih=>
    intro cs hr
    obtain ⟨f,x,hx⟩:=reads_one hr
    rcases DataW.trod_slice h hx with ⟨rfl,_⟩ | ⟨a,len,cap,elems,rest,n,_,rfl,_,hb,hl,hm,hlen,hel,_⟩
    · exact ⟨[],.cons (.roE _ _ (by simp)) .nil,fun x hx=>by simp at hx,Nat.zero_le _⟩
    · by_cases h0:len = 0
      · subst h0
        exact ⟨[],.cons (.roE _ _ (by simp)) .nil,fun x hx=>by simp at hx,Nat.zero_le _⟩
      · have each:∀ i,i < len → ∃ (v:t.T) (ds:List Value),ds.length = t.sz ∧ (∀ j,j < t.sz → w.cell? ((a.add (i * t.sz)).add j) = ds[j]?) ∧ VRs w sig0 av0 ((el t).pv v) ds ∧ t.wf v:=by
          intro i hi
          have k:=hel i hi
          rw [List.getElem?_eq_getElem (by omega)] at k
          obtain ⟨ds,d1,d2⟩:=Option.bind_eq_some_iff.1 k
          obtain ⟨_,e1,e2⟩:=World.cells?_some d1
          rw [hs] at e1 e2
          obtain ⟨v,v1,v2⟩:=ih (cs:=ds) ⟨⟨n,_,by rw [List.take_of_length_le (by omega)];exact d2⟩,by show ds.drop _ = [];rw [hs,← e1,List.drop_length]⟩
          exact ⟨v,ds,e1,e2,v1,v2⟩
        obtain ⟨b,off,spot⟩:=a
        obtain ⟨v0,ds0,q1,q2,_⟩:=each 0 (by omega)
        have hpos:0 < t.sz:=t.sz_pos
        have c0:=q2 0 hpos
        rw [List.getElem?_eq_getElem (by omega)] at c0
        have hspot:spot = none:=by simpa [Addr.add] using World.cell?_spot c0
        subst hspot
        obtain ⟨l,ds,l1,l2,l3,l4,l5⟩:=elems_open (w:=w) (t:=t) (s:=t.sz) (β:=b) len off fun i hi=>by
          obtain ⟨v,ds,q1,q2,q3⟩:=each i hi
          refine ⟨v,ds,q1,fun j hj=>?_,q3⟩
          rw [← q2 j hj,Go.WideShapes.add_plain,Go.WideShapes.add_plain,Nat.add_assoc]
        have hlt:b < w.heap.size:=by
          have:=l3 0 (Nat.mul_pos (by omega) hpos)
          have hds:0 < ds.length:=by rw [l2];exact Nat.mul_pos (by omega) hpos
          rw [List.getElem?_eq_getElem hds] at this
          rcases Nat.lt_or_ge b w.heap.size with h' | h'
          · exact h'
          · simp [World.cell?,Array.getElem?_eq_none h'] at this
        refine ⟨l,.cons ?_ .nil,l5,by omega⟩
        show VR w sig0 av0 (.ro (fl (el t) l) l.length none) _
        rw [l1]
        refine .ro ds ⟨hlt,av0_no _,fun i v hi=>?_⟩ l4.get.1 l4.get.2 hl (by simp)
        have:i < ds.length:=(List.getElem?_eq_some_iff.1 hi).1
        rw [l3 i (by omega),hi]
  | struct h ho hf ih=>
    intro cs hr
    obtain ⟨f,x,hx⟩:=reads_one hr
    obtain ⟨xs,n,_,_,hl,hxl,hfs⟩:=DataW.trod_struct h hx
    refine ih ?_
    have:=reads_fields (enc:=enc) (P:=P) (w:=w) (base:=base) (sp:=sp) (held:=held) (n:=n) hl _ 0 ho fun g hg=>by
      obtain ⟨i,hi,he⟩:=List.getElem_of_mem hg
      have hi':i < xs.length:=by rw [hxl];simpa using hi
      refine ⟨xs[i],?_⟩
      rw [hfs i g (by rw [← he];simp at hi ⊢),List.getElem?_eq_getElem hi']
    simpa using this
  | @array t τ e n h hz hf ih=>
    intro cs hr
    obtain ⟨f,x,hx⟩:=reads_one hr
    obtain ⟨xs,m,_,_,hl,hxl,hfs⟩:=DataW.trod_array h hx
    refine ih ?_
    have:=reads_arr (enc:=enc) (w:=w) (base:=base) (sp:=sp) (held:=held) (m:=m) (hl.trans hz) (fun i hi=>⟨xs[i]'(by omega),by rw [hfs i hi,List.getElem?_eq_getElem (by omega)]⟩) n 0 (by omega)
    simpa using this
  | @cons a c τ τ' τs hf hg ih1 ih2=>
    intro cs hr
    obtain ⟨⟨f,x,hx⟩,hd⟩:=hr
    by_cases hle:P.cellsOf τ ≤ cs.length
    · obtain ⟨v,v1,v2⟩:=ih1 (cs:=cs.take (P.cellsOf τ)) ⟨⟨f,x,by rw [List.take_take,Nat.min_self];exact hx⟩,by show List.drop _ _ = [];rw [List.drop_take,Nat.sub_self,List.take_zero]⟩
      obtain ⟨u,u1,u2⟩:=ih2 hd
      refine ⟨(v,u),?_,v2,u2⟩
      show VRs w sig0 av0 ((el a).pv v ++ (el c).pv u) cs
      have:=v1.append u1
      rwa [List.take_append_drop] at this
    · have e1:cs.take (P.cellsOf τ) = cs:=List.take_of_length_le (by omega)
      obtain ⟨v,v1,v2⟩:=ih1 (cs:=cs) ⟨⟨f,x,hx⟩,by show cs.drop _ = [];exact List.drop_eq_nil_of_le (by omega)⟩
      obtain ⟨u,u1,u2⟩:=ih2 hd
      rw [List.drop_eq_nil_of_le (by omega)] at u1
      refine ⟨(v,u),?_,v2,u2⟩
      show VRs w sig0 av0 ((el a).pv v ++ (el c).pv u) cs
      have:=v1.append u1
      rwa [List.append_nil] at this
end
end Go.SH
set_option maxRecDepth 100000
namespace Go.Proofs.YtfadcigdmddndaaDoor
open Go.ChangeShapes Go.WideShapes Go.ChangeAt Go.RowKit Go.Joins Go.SH
theorem fit_change:Fit Tryd.prog K86d9 [42]:=
  .struct Tryd.underlying42 (by kernel_rfl) (.cons (.int Tryd.underlying39) (.cons (.int Tryd.underlying3) (.cons (.int Tryd.underlying3) (.cons (.int Tryd.underlying21)
    (.cons (.slice Tryd.underlying40 (by kernel_rfl) (.int Tryd.underlying3)) (.slice Tryd.underlying31 (by kernel_rfl) (.int Tryd.underlying21)))))))
theorem open_changes {H:Type} {enc:TypeId × Value → H} {W:World} {base:Nat} {v:Value} {d:DataW H} {p:List MemPlace} (hval:Value.okWide Tryd.prog W .any base 51 v) (h:DataW.Trod enc Tryd.prog W 0 (fun _=>true) true 51 v d p) :
    ∃ (l:List K86d9.T),VR W sig0 av0 (.ro (fl (el K86d9) l) l.length none) v:=by
  obtain ⟨a,len,cap,rfl⟩:=okWide_slice Tryd.underlying51 hval
  obtain ⟨fuel,hf⟩:=h
  have hc:(Value.slice a len cap).cells.toList = [.slice a len cap]:=by simp [Value.cells]
  have h1:Tryd.prog.cellsOf 51 = 1:=by kernel_rfl
  rw [hc] at hf
  obtain ⟨l,h2,_⟩:=fit_open (Fit.slice Tryd.underlying51 (by kernel_rfl) fit_change) (cs:=[.slice a len cap]) ⟨⟨fuel,_,by rw [h1];exact hf⟩,by show List.drop _ _ = [];rw [h1];rfl⟩
  cases h2 with
  | cons h r=>exact ⟨l,h⟩
end Go.Proofs.YtfadcigdmddndaaDoor
set_option maxRecDepth 100000
namespace Go.Proofs.YtfadcigdmddndaaDoor
open Go Go.ChangeShapes Go.WideShapes Go.ChangeAt Go.RowKit Go.Joins Go.SH
theorem law_pure (a0:Int) (a1:Int) (a2:List K86d9.T):Pure En 5 [.int .i64 a0,.int .i64 a1,.ro (fl (el K86d9) a2) a2.length none] (.bool true):=
  oriellaw17_ScreenClears_c.ok (a0,a1,a2) true (clears_true a0 a1 a2)
theorem law_lifted (os:Os) (started:os.Started) (H:Type) (enc:TypeId × Value → H) :
    ReturnsInHanded {} Tryd.checked os 5 .any (fun w args=>(Rows.screenClearsSpec.pre enc Tryd.prog Tryd.f5 [] false w args ∧ laidMetH Tryd.prog laid2 w) ∧ sizedMet enc Tryd.prog Tryd.f5 (OpenSpec.ofChange Rows.screenClearsSpec) false w args)
      (Rows.screenClearsSpec.post enc Tryd.prog Tryd.f5 false true false false):=by
  refine returnsInHanded_of_change_and (C:=Tryd.checked) (X:=fun w _=>laidMetH Tryd.prog laid2 w) (fun _ _ _ hh h=>h.of_heap hh) own started (by kernel_rfl) Tryd.func5
    (ChangeSpec.witness_shaped (enc:=enc) (C:=Tryd.checked) (os:=os) (X:=fun w _=>laidMetH Tryd.prog laid2 w) false (World.doorLaid Tryd.prog 400 os) #[.int .i64 0,.int .i64 0,.slice none 0 0] 8 rfl (World.shaped_of_RefB (by kernel_rfl) (by kernel_rfl)) (by kernel_rfl) (by kernel_rfl) (by kernel_rfl) (door_met os _)) ?_
  intro W base args ds gs before hval0 hW _ _ hL _
  have hval:∀ (j:Nat) t v,Tryd.f5.params[j]? = some t → args[j]? = some v → Value.okWide Tryd.prog W .any base t v:=hval0
  have hW':=hW
  obtain ⟨p,q,hA0,hV,rfl,hfz,hnd⟩:=hW
  have hA:DataW.TrodAll enc Tryd.prog W 0 (fun _=>true) true Tryd.f5.params.toList args.toList ds p:=hA0
  rw [Tryd.params5] at hA hval
  obtain ⟨v0,vs0,d0,ds0,p0,q0,ha0,rfl,rfl,h0,hA⟩:=trodAll_cons hA
  obtain ⟨v1,vs1,d1,ds1,p1,q1,rfl,rfl,rfl,h1,hA⟩:=trodAll_cons hA
  obtain ⟨v2,vs2,d2,ds2,p2,q2,rfl,rfl,rfl,h2,hA⟩:=trodAll_cons hA
  obtain ⟨rfl,rfl,rfl⟩:=trodAll_nil hA
  have hargs:args = #[v0,v1,v2]:=by
    apply Array.toList_inj.1;rw [ha0]
  subst hargs
  obtain ⟨rfl,rfl⟩:=trodVars_none hV
  have ltp:∀ {t:TypeId} {v:Value} {d:DataW H} {p:List MemPlace},DataW.Trod enc Tryd.prog W 0 (fun _=>true) true t v d p → ∀ x ∈ p,x.block < W.heap.size:=fun h=>by obtain ⟨m,hm⟩:=h;exact DataW.trod_lt m _ _ _ hm
  have h0':=h0
  obtain ⟨n0,rfl,rfl,rfl,w0⟩:=open_int Tryd.underlying3 (hval 0 3 v0 rfl rfl) h0'
  have h1':=h1
  obtain ⟨n1,rfl,rfl,rfl,w1⟩:=open_int Tryd.underlying3 (hval 1 3 v1 rfl rfl) h1'
  obtain ⟨n2,hv2⟩:=open_changes (hval 2 51 v2 rfl rfl) h2
  refine (law_calls' (law_pure n0 n1 n2) W [.int .i64 n0,.int .i64 n1,v2]
    (.cons (.int _ _) (.cons (.int _ _) (.cons hv2 .nil))) (En_globals hL)).mono fun e W' ⟨he,bel⟩=>?_
  subst he
  exact ⟨_,rfl,_,_,_,[],_,[],hW',trodAll_mk1 (shut_bool Tryd.underlying4 _),
    (trodAll_cons_mk (Below.trod laidOut (by kernel_rfl) (of_decide_eq_true (by kernel_rfl)) h0 bel (ltp h0)) (trodAll_cons_mk (Below.trod laidOut (by kernel_rfl) (of_decide_eq_true (by kernel_rfl)) h1 bel (ltp h1)) (trodAll_cons_mk (Below.trod laidOut (by kernel_rfl) (of_decide_eq_true (by kernel_rfl)) h2 bel (ltp h2)) trodAll_mk0))),rfl,bel.frame _,fun h=>by cases h⟩
theorem law_row:Rows.ScreenClearsSaid:=
  OpenClaim.holds_of_wide 5 Tryd.f5 rfl rfl rfl rfl rfl rfl rfl ⟨rfl,rfl,rfl,rfl,rfl⟩ rfl rfl rfl rfl rfl (by kernel_rfl) Tryd.func5 (by kernel_rfl)
    (of_decide_eq_true (by kernel_rfl)) (by unfold Func.isWrapper;first | (rw [if_pos (by decide +kernel)];kernel_rfl) | (rw [if_neg (by decide +kernel)];exact ⟨rfl,rfl⟩))
    (fun os started H enc _=>law_lifted os started H enc)
theorem screen_clears_holds:Rows.ScreenClearsCardSaid:=
  Claim7.holds_tied_plain_at .later [] [.data,.data] true (true,"705957de36b36c3598fda81f9d56006a2f636c4812c72a1772f2aa96b3296aa4") false
    law_row (fun _ h=>by cases h) (by kernel_rfl) (fun _ h=>by cases h) screenClears_row_tie rfl ⟨rfl,rfl⟩ (by kernel_rfl) rfl
    (fun f fn hf hfn=>by
      obtain rfl:f = 5:=Option.some.inj ((show Tryd.prog.funcNamed "oriel/oriellaw17.ScreenClears" = some 5 by kernel_rfl).symm.trans hf) |>.symm
      obtain rfl:fn = Tryd.f5:=(Option.some.inj (Tryd.func5.symm.trans hfn)).symm
      exact ⟨by kernel_rfl,fun j t ht=>by
        rw [Tryd.params5] at ht
        have hm:t ∈ [3,3,51]:=by simpa using Array.mem_of_getElem? ht
        have hall:([3,3,51].all fun u=>!Tryd.prog.wantsStandIn u) = true:=by kernel_rfl
        exact (show Tryd.prog.wantsStandIn t = false by simpa using List.all_eq_true.1 hall t hm)⟩)
    (by kernel_rfl)
end Go.Proofs.YtfadcigdmddndaaDoor
