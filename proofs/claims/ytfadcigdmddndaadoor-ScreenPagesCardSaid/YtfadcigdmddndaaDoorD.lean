/- Part 4 of: ScreenPages: the first page is as it was, cursor and pen too, when the other one was shown and is no longer, whatever was done there but for resizing and beginning anew; of at most 20 rows and columns, at most 60 changes on either page. -/
import Derived.Test.YtfadcigdmddndaaDoorC
import Derived.KernelRfl
set_option linter.unusedVariables false
set_option linter.unusedSimpArgs false
namespace Go.SH
section
variable {E:Env}
theorem tabsAll_ok (h0:E.on none none = E) {f:FuncId} {fn:Func} {c:Code} (hf:E.P.funcs[f]? = some fn) (hb:fn.body = some c) (hn:1 < fn.ntmps) {tc:List PV} {fI:FuncId} (lab:Nat) {r0 r1:Code} (hc:c = .seq r0 (.seq r1 .ret)) (hr0:isReg r0 = true) (hr1:isReg r1 = true)
    {o0:Oper} {q0:List Oper} (hs:(opsOf r0).toList = o0 :: q0) (hd:o0.dst = some 1) (b:xop E.P E.G o0 [(0,.agg tc)] [] lab = some (.ptr lab 0,[(lab,some tc)])) (w:wants (opsOf r0) [(0,.agg tc)] o0 = some true)
    (y:(xrun E.P E.G fn.ntmps (opsOf r0) q0.length q0 [(1,.ptr lab 0),(0,.agg tc)] [(lab,some tc)]).map (fun s=>(keepS [1] s.1,s.2)) = some ([(1,.ptr lab 0)],[(lab,some tc)]))
    (x1:xrunK E.P E.G fn.ntmps (opsOf r1) [2] [(1,.ptr lab 0)] [(lab,some tc)] = some ([(2,.fn fI [.ptr lab 0])],[(lab,some tc)])) (hx:xres E.P [(2,.fn fI [.ptr lab 0])] [(lab,some tc)] fn.results.toList = some [.fn fI [.ptr lab 0]]) :
    ACalls E f [.agg tc] [] fun r L'=>r = .fn fI [.ptr lab 0] ∧ L' = [(lab,some tc)]:=by
  refine ACalls_of_AW hf hb (by simp;omega) ?_
  rw [h0,hc]
  show AW E _ _ _ _ [(0,.agg tc)] []
  obtain ⟨id,e⟩:=reg_eq hr0
  refine AW_seq ?_
  rw [e]
  refine AW_region ?_
  rw [hs]
  refine AWl_o (xop_ok rfl b) (by rw [hd];simpa [dstOK] using hn) (by simp [lget]) w ?_
  rw [hd]
  refine pend (ops:=opsOf r0) [1] _ _ y ?_
  refine AW_seq ((pcx [2] _ _ hr1 x1).mono ?_)
  rintro e al L ⟨rfl,rfl,rfl⟩
  exact AW_ret ⟨trivial,_,hx,rfl,rfl⟩
def Ln (tc:List PV) (at' c r:Int):Lb:=[(0,some tc),(1,some [.int .i64 at']),(2,some [.int .i64 c]),(3,some [.int .i64 r])]
def Ln4 (tc:List PV) (at' c r:Int):Lb:=[(0,some tc),(1,some [.int .i64 at']),(2,some [.int .i64 c]),(3,some [.int .i64 r]),(4,some tc)]
def al456:Al:=[(4,.ptr 1 0),(5,.ptr 2 0),(6,.ptr 3 0)]
theorem next_ok (h0:E.on none none = E) (hG:GOK E) (hGp:∀ g cells,lget E.G g = some cells → cells.all plX = true) {f:FuncId} {fn:Func} {c:Code} (hf:E.P.funcs[f]? = some fn) (hb:fn.body = some c) (hn:24 < fn.ntmps) {tc:List PV} (htc:tc.all plP = true) (hne:tc ≠ []) (hwt:withinL (fun _=>false) tc = true)
    {fA fI:FuncId} (hrA:∀ args w,(callFunc fA args).run E.P w = .ok (.enter fA args) w) (hrI:∀ args w,(callFunc fI args).run E.P w = .ok (.enter fI args) w) (hAll:ACalls E fA [.agg tc] [] fun r L'=>r = .fn fI [.ptr 4 0] ∧ L' = [(4,some tc)]) {full:List Int} (hit:IterC E fI [.rop tc 0] full)
    {at' co:Int} {r0 r1 r2 r3 r4 r5 r6:Code} (hc:c = .seq r0 (.seq r1 (.seq (.seq r2 (.block 0 (.rangeFunc (.tmp 12) #[13] r3 (.block 1 (.seq r4 (.cond (.tmp 21) (.seq r5 .ret) .skip)))))) (.seq r6 .ret))))
    (hr:isReg r0 = true ∧ isReg r1 = true ∧ isReg r2 = true ∧ isReg r3 = true ∧ isReg r4 = true ∧ isReg r5 = true ∧ isReg r6 = true)
    (x0:xrunK E.P E.G fn.ntmps (opsOf r0) [3,4,5,6] [(0,.agg tc),(1,.int .i64 at'),(2,.int .i64 co)] [] = some ((3,.ptr 0 0) :: al456,Ln tc at' co 0))
    (x1:xrunK E.P E.G fn.ntmps (opsOf r1) [3,4,5,6] ((3,.ptr 0 0) :: al456) (Ln tc at' co 0) = some ((3,.ptr 0 0) :: al456,Ln tc at' (tabCols co) 0))
    (x2:(xrun E.P E.G fn.ntmps (opsOf r2) 1 (opsOf r2).toList ((3,.ptr 0 0) :: al456) (Ln tc at' (tabCols co) 0)).map (fun s=>(keepS [11,4,5,6] s.1,s.2)) = some ((11,.agg tc) :: al456,Ln tc at' (tabCols co) 0))
    {fo:Operand} {tys:Array TypeId} {ty:TypeId} {pos:String} {after:Array Edge} (s2:(opsOf r2).toList.drop 1 = [⟨some 12,.call ⟨.value fo,#[.tmp 11],tys⟩,ty,pos,after,none⟩]) (hfo:xev E.G ((11,.agg tc) :: al456) fo = some (.fn fA []))
    (x3:∀ r x,xrunK E.P E.G fn.ntmps (opsOf r3) [7,4,5,6] ((13,.int .i64 x) :: (12,.fn fI [.ptr 4 0]) :: al456) (Ln4 tc at' (tabCols co) r) = some ((7,.int .i64 x) :: al456,Ln4 tc at' (tabCols co) r))
    (y1:∀ r x,(xrun E.P E.G fn.ntmps (opsOf r4) 4 (opsOf r4).toList ((7,.int .i64 x) :: al456) (Ln4 tc at' (tabCols co) r)).map (fun s=>(keepS [17,7,4,5,6] s.1,s.2)) = some ((17,.bool (decide (x > at'))) :: (7,.int .i64 x) :: al456,Ln4 tc at' (tabCols co) r))
    (y2:∀ r x,(xrun E.P E.G fn.ntmps (opsOf r4) ((opsOf r4).toList.drop 4).length ((opsOf r4).toList.drop 4) ((17,.bool false) :: (7,.int .i64 x) :: al456) (Ln4 tc at' (tabCols co) r)).map (fun s=>(keepS [21,7,4,5,6] s.1,s.2)) = some ((21,.bool false) :: (7,.int .i64 x) :: al456,Ln4 tc at' (tabCols co) r))
    (y3:∀ r x,(xrun E.P E.G fn.ntmps (opsOf r4) ((opsOf r4).toList.drop 4).length ((opsOf r4).toList.drop 4) ((17,.bool true) :: (7,.int .i64 x) :: al456) (Ln4 tc at' (tabCols co) r)).map (fun s=>(keepS [21,7,4,5,6] s.1,s.2)) = some ((21,.bool (decide (x < tabCols co))) :: (7,.int .i64 x) :: al456,Ln4 tc at' (tabCols co) r))
    (x5:∀ r x,xrunK E.P E.G fn.ntmps (opsOf r5) [6] ((21,.bool true) :: (7,.int .i64 x) :: al456) (Ln4 tc at' (tabCols co) r) = some ([(6,.ptr 3 0)],Ln4 tc at' (tabCols co) x))
    (x6:∀ r,xrunK E.P E.G fn.ntmps (opsOf r6) [6] ((12,.fn fI [.ptr 4 0]) :: al456) (Ln4 tc at' (tabCols co) r) = some ([(6,.ptr 3 0)],Ln4 tc at' (tabCols co) (IntKind.wrap .i64 (tabCols co - 1))))
    (hx:∀ al r,lget al 6 = some (.ptr 3 0) → xres E.P al (Ln4 tc at' (tabCols co) r) fn.results.toList = some [.int .i64 r]) :
    Pure E f [.agg tc,.int .i64 at',.int .i64 co] (.int .i64 (nextV at' (tabCols co) full)):=by
  refine ACalls_drop (LL:=Ln4 tc at' (tabCols co) (nextV at' (tabCols co) full)) ?_ rfl
  refine ACalls_of_AWm hf hb (by simp;omega) fun b=>?_
  have hxp:tc.all plX = true:=by
    rw [List.all_eq_true] at htc ⊢
    intro x hx
    have:=htc x hx
    cases x <;> first | exact this | (simp [plP] at this;done)
  have hpl:∀ r l cells,lget (Ln4 tc at' (tabCols co) r) l = some (some cells) → cells.all plX = true:=fun r l cells h=>by
    have:=mem_of_lget h
    simp only [Ln4,List.mem_cons,List.not_mem_nil,or_false,Prod.mk.injEq,Option.some.injEq] at this
    rcases this with ⟨_,rfl⟩ | ⟨_,rfl⟩ | ⟨_,rfl⟩ | ⟨_,rfl⟩ | ⟨_,rfl⟩ <;> first | exact hxp | rfl
  obtain ⟨i0,i1,i2,i3,i4,i5,i6⟩:=hr
  rw [hc]
  show AW (E.on none (some b)) _ _ _ _ [(0,.agg tc),(1,.int .i64 at'),(2,.int .i64 co)] []
  refine AW_seq ((pcx (E:=E.on none (some b)) _ _ _ i0 x0).mono ?_)
  rintro e al L ⟨rfl,rfl,rfl⟩
  refine AW_seq ((pcx (E:=E.on none (some b)) _ _ _ i1 x1).mono ?_)
  rintro e al L ⟨rfl,rfl,rfl⟩
  refine AW_seq (AW_seq (pcut (E:=E.on none (some b)) i2 1 _ _ _ x2 ?_))
  rw [s2]
  have hcall:AOp (E.on none (some b)) ⟨some 12,.call ⟨.value fo,#[.tmp 11],tys⟩,ty,pos,after,none⟩ ((11,.agg tc) :: al456) [] (.fn fI [.ptr 4 0]) [(4,some tc)]:=
    AOp_callG (xs:=[.agg tc]) (caps:=[]) (LL:=[(4,some tc)]) hG hfo rfl hrA hAll (by simp [withinL,within,hwt];exact withinL_mono hwt) (fun l cells h=>by simp [lget] at h) (fun l h=>by simp [lget] at h) (fun l y h _=>⟨(4,some tc),by simp,by
      simp only [lget] at h
      split at h
      · assumption
      · simp at h⟩) (fun L l _=>by
      show lget (lset L 4 (some tc)) l = _
      rw [lget_lset]
      simp only [List.cons_append,List.nil_append,lget]) (.inl rfl)
  refine AWl_op hcall (by intro t h;simp at h;subst h;exact Nat.lt_trans (by decide) hn) (fun _ _ h=>h) (fun l y h=>by simp [lget] at h) (by intro p hp;simp at hp;subst hp;exact .inr rfl) rfl ?_
  refine AWl_nil ?_
  show AW (E.on none (some b)) _ _ (.block 0 _) _ ((12,.fn fI [.ptr 4 0]) :: (11,.agg tc) :: al456) (Ln4 tc at' (tabCols co) 0)
  refine AW_weak (Weak.sub (al':=(12,.fn fI [.ptr 4 0]) :: al456) fun p hp=>by
    simp only [al456,List.mem_cons,List.not_mem_nil,or_false] at hp
    rcases hp with rfl | rfl | rfl | rfl <;> rfl) ?_
  refine AW_block (AW_rangeX (E:=E.on none (some b)) (s0:=(0:Int)) (b:=b) rfl rfl hGp (lab:=4) (tc:=tc) (Nat.lt_trans (by decide) hn) rfl hrI (fun r=>Ln4 tc at' (tabCols co) r) (nextS at' (tabCols co)) rfl hne hpl hit (fun x=>(7,.int .i64 x) :: al456) (fun _=>rfl) (fun r x q hq=>?_) (fun r x l=>pcx (E:=E.on (some l) none) _ _ _ i3 (x3 r x)) (fun r x l=>?_) ?_)
  · simp only [al456,List.mem_cons,List.not_mem_nil,or_false] at hq
    rcases hq with rfl | rfl | rfl | rfl <;> rfl
  · refine AW_block (AW_seq (pcut (E:=E.on (some l) none) i4 4 _ _ _ (y1 r x) ?_))
    by_cases h1:at' < x
    · rw [show decide (x > at') = true from decide_eq_true h1]
      refine pend (E:=E.on (some l) none) _ _ _ (y3 r x) ?_
      by_cases h2:x < tabCols co
      · have hs:nextS at' (tabCols co) r x = (x,some none):=if_pos ⟨h1,h2⟩
        rw [show decide (x < tabCols co) = true from decide_eq_true h2,hs]
        refine AW_condT rfl (AW_seq ((pcx (E:=E.on (some l) none) _ _ _ i5 (x5 r x)).mono ?_))
        rintro e al L ⟨rfl,rfl,rfl⟩
        exact AW_ret ⟨rfl,rfl⟩
      · have hs:nextS at' (tabCols co) r x = (r,none):=if_neg fun h=>h2 h.2
        rw [show decide (x < tabCols co) = false from decide_eq_false h2,hs]
        exact AW_condF rfl (AW_skip ⟨rfl,rfl⟩)
    · rw [show decide (x > at') = false from decide_eq_false h1]
      refine pend (E:=E.on (some l) none) _ _ _ (y2 r x) ?_
      have hs:nextS at' (tabCols co) r x = (r,none):=if_neg fun h=>h1 h.1
      rw [hs]
      exact AW_condF rfl (AW_skip ⟨rfl,rfl⟩)
  · have key:∀ (s:Int) (o:Option (Option Nat)),runX (nextS at' (tabCols co)) 0 full = (s,o) → (o = none ∨ o = some none):=by
      have:∀ (l:List Int) (r s:Int) (o:Option (Option Nat)),runX (nextS at' (tabCols co)) r l = (s,o) → (o = none ∨ o = some none):=by
        intro l
        induction l with
        | nil=>intro r s o h;simp [runX] at h;exact .inl h.2.symm
        | cons x l ih=>
          intro r s o h
          simp only [runX] at h
          cases hst:nextS at' (tabCols co) r x with
          | mk s1 o1=>
            rw [hst] at h
            cases o1 with
            | none=>exact ih _ _ _ h
            | some k=>
              simp at h
              unfold nextS at hst
              split at hst
              · simp at hst;right;rw [← h.2,← hst.2]
              · simp at hst
      exact fun s o h=>this full 0 s o h
    cases hrun:runX (nextS at' (tabCols co)) 0 full with
    | mk s o=>
      have hV:nextV at' (tabCols co) full = nextR (tabCols co) (s,o):=by unfold nextV;rw [hrun]
      rcases key s o hrun with rfl | rfl
      · show AW (E.on none (some b)) _ _ (.seq r6 .ret) _ ((12,.fn fI [.ptr 4 0]) :: al456) (Ln4 tc at' (tabCols co) s)
        refine AW_seq ((pcx (E:=E.on none (some b)) _ _ _ i6 (x6 s)).mono ?_)
        rintro e al L ⟨rfl,rfl,rfl⟩
        refine AW_ret ⟨trivial,_,hx _ _ rfl,?_⟩
        rw [hV];exact ⟨rfl,rfl⟩
      · refine ⟨trivial,_,hx _ _ rfl,?_⟩
        rw [hV];exact ⟨rfl,rfl⟩
def Lk (tc:List PV) (at' r:Int):Lb:=[(0,some tc),(1,some [.int .i64 at']),(2,some [.int .i64 r])]
def Lk3 (tc:List PV) (at' r:Int):Lb:=[(0,some tc),(1,some [.int .i64 at']),(2,some [.int .i64 r]),(3,some tc)]
def al35:Al:=[(3,.ptr 1 0),(5,.ptr 2 0)]
theorem back_ok (h0:E.on none none = E) (hG:GOK E) (hGp:∀ g cells,lget E.G g = some cells → cells.all plX = true) {f:FuncId} {fn:Func} {c:Code} (hf:E.P.funcs[f]? = some fn) (hb:fn.body = some c) (hn:14 < fn.ntmps) {tc:List PV} (htc:tc.all plP = true) (hne:tc ≠ []) (hwt:withinL (fun _=>false) tc = true)
    {fA fI:FuncId} (hrA:∀ args w,(callFunc fA args).run E.P w = .ok (.enter fA args) w) (hrI:∀ args w,(callFunc fI args).run E.P w = .ok (.enter fI args) w) (hAll:ACalls E fA [.agg tc] [] fun r L'=>r = .fn fI [.ptr 3 0] ∧ L' = [(3,some tc)]) {full:List Int} (hit:IterC E fI [.rop tc 0] full)
    {at':Int} {r0 r1 r2 r3 r4 r5 r6:Code} (hc:c = .seq r0 (.seq r1 (.seq (.seq r2 (.block 0 (.rangeFunc (.tmp 8) #[9] r3 (.block 1 (.seq (.seq r4 (.cond (.tmp 12) (.exit 0) .skip)) r5))))) (.seq r6 .ret))))
    (hr:isReg r0 = true ∧ isReg r1 = true ∧ isReg r2 = true ∧ isReg r3 = true ∧ isReg r4 = true ∧ isReg r5 = true ∧ isReg r6 = true)
    (x0:xrunK E.P E.G fn.ntmps (opsOf r0) [2,3] [(0,.agg tc),(1,.int .i64 at')] [] = some ([(2,.ptr 0 0),(3,.ptr 1 0)],[(0,some tc),(1,some [.int .i64 at'])]))
    (x1:xrunK E.P E.G fn.ntmps (opsOf r1) [2,3,5] [(2,.ptr 0 0),(3,.ptr 1 0)] [(0,some tc),(1,some [.int .i64 at'])] = some ((2,.ptr 0 0) :: al35,Lk tc at' 0))
    (x2:(xrun E.P E.G fn.ntmps (opsOf r2) 1 (opsOf r2).toList ((2,.ptr 0 0) :: al35) (Lk tc at' 0)).map (fun s=>(keepS [7,3,5] s.1,s.2)) = some ((7,.agg tc) :: al35,Lk tc at' 0))
    {fo:Operand} {tys:Array TypeId} {ty:TypeId} {pos:String} {after:Array Edge} (s2:(opsOf r2).toList.drop 1 = [⟨some 8,.call ⟨.value fo,#[.tmp 7],tys⟩,ty,pos,after,none⟩]) (hfo:xev E.G ((7,.agg tc) :: al35) fo = some (.fn fA []))
    (x3:∀ r x,xrunK E.P E.G fn.ntmps (opsOf r3) [6,3,5] ((9,.int .i64 x) :: (8,.fn fI [.ptr 3 0]) :: al35) (Lk3 tc at' r) = some ((6,.int .i64 x) :: al35,Lk3 tc at' r))
    (x4:∀ r x,xrunK E.P E.G fn.ntmps (opsOf r4) [12,6,3,5] ((6,.int .i64 x) :: al35) (Lk3 tc at' r) = some ((12,.bool (decide (x ≥ at'))) :: (6,.int .i64 x) :: al35,Lk3 tc at' r))
    (x5:∀ r x,xrunK E.P E.G fn.ntmps (opsOf r5) [5] ((12,.bool false) :: (6,.int .i64 x) :: al35) (Lk3 tc at' r) = some ([(5,.ptr 2 0)],Lk3 tc at' x))
    (x6:∀ r,xrunK E.P E.G fn.ntmps (opsOf r6) [4] ((8,.fn fI [.ptr 3 0]) :: al35) (Lk3 tc at' r) = some ([(4,.int .i64 r)],Lk3 tc at' r))
    (hx:∀ r,xres E.P [(4,.int .i64 r)] (Lk3 tc at' r) fn.results.toList = some [.int .i64 r]) :
    Pure E f [.agg tc,.int .i64 at'] (.int .i64 (backV at' full)):=by
  refine ACalls_drop (LL:=Lk3 tc at' (backV at' full)) ?_ rfl
  refine ACalls_of_AWm hf hb (by simp;omega) fun b=>?_
  have hxp:tc.all plX = true:=by
    rw [List.all_eq_true] at htc ⊢
    intro x hx
    have:=htc x hx
    cases x <;> first | exact this | (simp [plP] at this;done)
  have hpl:∀ r l cells,lget (Lk3 tc at' r) l = some (some cells) → cells.all plX = true:=fun r l cells h=>by
    have:=mem_of_lget h
    simp only [Lk3,List.mem_cons,List.not_mem_nil,or_false,Prod.mk.injEq,Option.some.injEq] at this
    rcases this with ⟨_,rfl⟩ | ⟨_,rfl⟩ | ⟨_,rfl⟩ | ⟨_,rfl⟩ <;> first | exact hxp | rfl
  obtain ⟨i0,i1,i2,i3,i4,i5,i6⟩:=hr
  rw [hc]
  show AW (E.on none (some b)) _ _ _ _ [(0,.agg tc),(1,.int .i64 at')] []
  refine AW_seq ((pcx (E:=E.on none (some b)) _ _ _ i0 x0).mono ?_)
  rintro e al L ⟨rfl,rfl,rfl⟩
  refine AW_seq ((pcx (E:=E.on none (some b)) _ _ _ i1 x1).mono ?_)
  rintro e al L ⟨rfl,rfl,rfl⟩
  refine AW_seq (AW_seq (pcut (E:=E.on none (some b)) i2 1 _ _ _ x2 ?_))
  rw [s2]
  have hcall:AOp (E.on none (some b)) ⟨some 8,.call ⟨.value fo,#[.tmp 7],tys⟩,ty,pos,after,none⟩ ((7,.agg tc) :: al35) [] (.fn fI [.ptr 3 0]) [(3,some tc)]:=
    AOp_callG (xs:=[.agg tc]) (caps:=[]) (LL:=[(3,some tc)]) hG hfo rfl hrA hAll (by simp [withinL,within,hwt];exact withinL_mono hwt) (fun l cells h=>by simp [lget] at h) (fun l h=>by simp [lget] at h) (fun l y h _=>⟨(3,some tc),by simp,by
      simp only [lget] at h
      split at h
      · assumption
      · simp at h⟩) (fun L l _=>by
      show lget (lset L 3 (some tc)) l = _
      rw [lget_lset]
      simp only [List.cons_append,List.nil_append,lget]) (.inl rfl)
  refine AWl_op hcall (by intro t h;simp at h;subst h;exact Nat.lt_trans (by decide) hn) (fun _ _ h=>h) (fun l y h=>by simp [lget] at h) (by intro p hp;simp at hp;subst hp;exact .inr rfl) rfl ?_
  refine AWl_nil ?_
  show AW (E.on none (some b)) _ _ (.block 0 _) _ ((8,.fn fI [.ptr 3 0]) :: (7,.agg tc) :: al35) (Lk3 tc at' 0)
  refine AW_weak (Weak.sub (al':=(8,.fn fI [.ptr 3 0]) :: al35) fun p hp=>by
    simp only [al35,List.mem_cons,List.not_mem_nil,or_false] at hp
    rcases hp with rfl | rfl | rfl <;> rfl) ?_
  refine AW_block (AW_rangeX (E:=E.on none (some b)) (s0:=(0:Int)) (b:=b) rfl rfl hGp (lab:=3) (tc:=tc) (Nat.lt_trans (by decide) hn) rfl hrI (fun r=>Lk3 tc at' r) (backS at') rfl hne hpl hit (fun x=>(6,.int .i64 x) :: al35) (fun _=>rfl) (fun r x q hq=>?_) (fun r x l=>pcx (E:=E.on (some l) none) _ _ _ i3 (x3 r x)) (fun r x l=>?_) ?_)
  · simp only [al35,List.mem_cons,List.not_mem_nil,or_false] at hq
    rcases hq with rfl | rfl | rfl <;> rfl
  · refine AW_block (AW_seq (AW_seq ((pcx (E:=E.on (some l) none) _ _ _ i4 (x4 r x)).mono ?_)))
    rintro e al L ⟨rfl,rfl,rfl⟩
    by_cases h1:at' ≤ x
    · have hs:backS at' r x = (r,some (some 0)):=if_pos h1
      rw [show decide (x ≥ at') = true from decide_eq_true h1,hs]
      exact AW_condT rfl (AW_exit ⟨rfl,rfl⟩)
    · have hs:backS at' r x = (x,none):=if_neg h1
      rw [show decide (x ≥ at') = false from decide_eq_false h1,hs]
      refine AW_condF rfl (AW_skip ?_)
      refine (pcx (E:=E.on (some l) none) _ _ _ i5 (x5 r x)).mono ?_
      rintro e al L ⟨rfl,rfl,rfl⟩
      exact ⟨rfl,rfl⟩
  · have key:∀ (l:List Int) (r s:Int) (o:Option (Option Nat)),runX (backS at') r l = (s,o) → (o = none ∨ o = some (some 0)):=by
      intro l
      induction l with
      | nil=>intro r s o h;simp [runX] at h;exact .inl h.2.symm
      | cons x l ih=>
        intro r s o h
        simp only [runX] at h
        cases hst:backS at' r x with
        | mk s1 o1=>
          rw [hst] at h
          cases o1 with
          | none=>exact ih _ _ _ h
          | some k=>
            simp at h
            unfold backS at hst
            split at hst
            · simp at hst;right;rw [← h.2,← hst.2]
            · simp at hst
    cases hrun:runX (backS at') 0 full with
    | mk s o=>
      have hV:backV at' full = s:=by unfold backV;rw [hrun]
      have fin:AW (E.on none (some b)) (fun l=>lget ([]:Lb) l ≠ none) fn.ntmps (.seq r6 .ret) (Ends (E.on none (some b)).P fn fun r L'=>r = .int .i64 (backV at' full) ∧ L' = Lk3 tc at' (backV at' full)) ((8,.fn fI [.ptr 3 0]) :: al35) (Lk3 tc at' s):=by
        refine AW_seq ((pcx (E:=E.on none (some b)) _ _ _ i6 (x6 s)).mono ?_)
        rintro e al L ⟨rfl,rfl,rfl⟩
        refine AW_ret ⟨trivial,_,hx _,?_⟩
        rw [hV];exact ⟨rfl,rfl⟩
      rcases key full 0 s o hrun with rfl | rfl
      · exact fin
      · exact fin
end
end Go.SH
set_option maxRecDepth 100000
namespace Go.SH
def tab_bounds:List (Int × Int × Int):=[(768,879,0),(1155,1161,0),(1425,1469,0),(1552,1562,0),(1611,1631,0),(4352,4447,2),(6832,6911,0),(7616,7679,0),(8203,8207,0),(8400,8447,0),(11904,12350,2),(12353,42191,2),(44032,55203,2),(63744,64255,2),(65024,65039,0),(65056,65071,0),(65072,65135,2),(65280,65376,2),(65504,65510,2),(127744,128591,2),(129280,129535,2),(131072,262141,2)]
def tab_dB64:List UInt8:=[0,1,56,2,57,49,28,3,61,58,42,50,38,29,17,4,62,47,59,36,45,43,51,22,53,39,33,30,24,18,12,5,63,55,48,27,60,41,37,16,46,35,44,21,52,32,23,11,54,26,40,15,34,20,31,10,25,14,19,9,13,8,7,6]
def GT:GTab:=[(0,⟨.tp (.ti .i32) (.tp (.ti .i32) (.ti .i32)),tab_bounds⟩),(1,⟨.tu,tab_dB64⟩)]
abbrev K38b9:ET:=.tp (.ti .i32) (.tp (.tl (.ti .i64)) (.tl (.ti .i32)))
abbrev K86d9:ET:=.tp (.ti .i64) (.tp (.ti .i64) (.tp (.ti .i64) K38b9))
abbrev K92a5:ET:=.tp (.ti .i64) (.tp (.ti .i64) (.ti .i64))
abbrev K72c5:ET:=.tp (.tp (.ti .i32) (.ti .i32)) (.tp (.ti .i64) K92a5)
abbrev Kf613:ET:=.tp (.ti .u64) (.tp (.ti .u64) (.ti .u64))
abbrev K36e7:ET:=.tp (.ti .i64) (.tp (.ti .i64) (.tp K92a5 (.tp .tb .tb)))
abbrev K1506:ET:=.tp (.tp (.ti .u64) Kf613) (.tl (.ti .i32))
abbrev K7549:ET:=.tp (.ti .i64) (.tp (.tp K36e7 K36e7) K1506)
abbrev K91ae:ET:=.tp K92a5 (.tp (.ti .i64) (.tp (.ti .i64) K7549))
abbrev K6235:ET:=.tp (.ti .i64) (.tp (.ti .i64) (.tp .tb K91ae))
abbrev K81c4:ET:=.tp (.tl (.tl (.tp (.ti .i32) K72c5))) K6235
abbrev K05d1:ET:=.tp (.tl (.tl (.tp (.ti .i32) K72c5))) K81c4
abbrev K740a:ET:=.tp (.ti .i32) (.tp (.ti .i32) (.ti .i32))
def bodyOf (f:Func):Code:=f.body.getD .skip
end Go.SH
set_option maxRecDepth 100000
namespace Go.SH
noncomputable def grid_side (a0:Int):Option (Bool):=bif decide (a0 ≥ 1) then some (decide (a0 ≤ 200)) else some false
noncomputable def pen_May_1 (a0:Int) (a1:Int):Option (Bool):=bif decide (a0 ≥ 0) then some (decide (a0 ≤ a1)) else some false
noncomputable def pen_May (a0:K92a5.T):Option (Bool):=(pen_May_1 a0.1 255).bind fun x1=>bif x1 then (pen_May_1 a0.2.1 256).bind fun x2=>bif x2 then (pen_May_1 a0.2.2 256).bind fun x3=>some x3 else some false else some false
noncomputable def line_blank (a0:K92a5.T):Option ((Int × K72c5.T)):=some (32,(0,0),0,0,0,a0.2.2)
noncomputable def bits_Mul64 (a0:Int) (a1:Int):Option (Int × Int):=some (IntKind.u64.wrap ((IntKind.u64.wrap ((IntKind.u64.wrap ((Int.fdiv a0 (2 ^ 32)) * (Int.fdiv a1 (2 ^ 32)))) + (Int.fdiv (IntKind.u64.wrap ((IntKind.u64.wrap ((Int.fdiv a0 (2 ^ 32)) * (ibits .and .u64 a1 4294967295))) + (Int.fdiv (IntKind.u64.wrap ((ibits .and .u64 a0 4294967295) * (ibits .and .u64 a1 4294967295))) (2 ^ 32)))) (2 ^ 32)))) + (Int.fdiv (IntKind.u64.wrap ((ibits .and .u64 (IntKind.u64.wrap ((IntKind.u64.wrap ((Int.fdiv a0 (2 ^ 32)) * (ibits .and .u64 a1 4294967295))) + (Int.fdiv (IntKind.u64.wrap ((ibits .and .u64 a0 4294967295) * (ibits .and .u64 a1 4294967295))) (2 ^ 32)))) 4294967295) + (IntKind.u64.wrap ((ibits .and .u64 a0 4294967295) * (Int.fdiv a1 (2 ^ 32)))))) (2 ^ 32))),IntKind.u64.wrap (a0 * a1))
noncomputable def bits_Mul (a0:Int) (a1:Int):Option (Int × Int):=(bits_Mul64 a0 a1).bind fun x1=>some (x1.1,x1.2)
noncomputable def slices_Repeat_4bb_loop1 (x2:Int × Int) (x5:Int × (List (Int × K72c5.T))):Option ((((List (Int × K72c5.T)))) ⊕ (Int × (List (Int × K72c5.T)))):=(bif decide (x5.1 < (((IntKind.i64.wrap x2.2).toNat:Nat):Int)) then some true else some false:Option (Bool)).bind fun x6=>bif x6 then req (0 ≤ x5.1 ∧ x5.1 ≤ (((IntKind.i64.wrap x2.2).toNat:Nat):Int) ∧ (((IntKind.i64.wrap x2.2).toNat:Nat):Int) ≤ (((IntKind.i64.wrap x2.2).toNat:Nat):Int)) <| req (0 ≤ (0:Int) ∧ (0:Int) ≤ x5.1 ∧ x5.1 ≤ (((IntKind.i64.wrap x2.2).toNat:Nat):Int)) <| req (x5.1.toNat + ((IntKind.i64.wrap x2.2).toNat - x5.1.toNat) ≤ x5.2.length) <| req (0 + x5.1.toNat ≤ x5.2.length) <| some (.inr (IntKind.i64.wrap (x5.1 + ((min ((x5.2.drop 0).take x5.1.toNat).length ((IntKind.i64.wrap x2.2).toNat - x5.1.toNat):Nat):Int)),cpy x5.2 x5.1.toNat ((x5.2.drop 0).take x5.1.toNat) (min ((x5.2.drop 0).take x5.1.toNat).length ((IntKind.i64.wrap x2.2).toNat - x5.1.toNat)))) else some (.inl x5.2)
noncomputable def slices_Repeat_4bb (a0:List (Int × K72c5.T)) (a1:Int):Option ((List (Int × K72c5.T))):=(bif decide (a1 < 0) then some true else some false:Option (Bool)).bind fun x1=>bif x1 then none else (bits_Mul (IntKind.u64.wrap (a0.length:Int)) (IntKind.u64.wrap a1)).bind fun x2=>(bif decide (x2.1 > 0) then some true else bif decide (x2.2 > 9223372036854775807) then some true else some false:Option (Bool)).bind fun x3=>bif x3 then none else req (0 ≤ (IntKind.i64.wrap x2.2) ∧ (IntKind.i64.wrap x2.2) ≤ (IntKind.i64.wrap x2.2) ∧ (IntKind.i64.wrap x2.2).toNat * 48 ≤ maxBy) <| req (0 + ((IntKind.i64.wrap x2.2).toNat) ≤ (List.replicate ((IntKind.i64.wrap x2.2).toNat) (0,(0,0),0,0,0,0):List (Int × K72c5.T)).length) <| (loopO (slices_Repeat_4bb_loop1 x2) (((min a0.length ((IntKind.i64.wrap x2.2).toNat):Nat):Int),cpy (List.replicate ((IntKind.i64.wrap x2.2).toNat) (0,(0,0),0,0,0,0):List (Int × K72c5.T)) 0 a0 (min a0.length ((IntKind.i64.wrap x2.2).toNat)))).bind fun x7=>req ((IntKind.i64.wrap x2.2).toNat = x7.length) (some x7)
noncomputable def line_Blank (a0:Int) (a1:K92a5.T):Option ((List (Int × K72c5.T))):=(bif decide (a0 < 0) then some true else bif decide (a0 > 1000) then some true else (pen_May a1).bind fun x2=>bif !x2 then some true else some false:Option (Bool)).bind fun x3=>bif x3 then some ([]) else (line_blank a1).bind fun x4=>(slices_Repeat_4bb [x4] a0).bind fun x5=>some x5
noncomputable def grid_Blank_d0d_loop1 (a0:Int) (a1:Int) (a2:K92a5.T) (x11:Int × (List (List (Int × K72c5.T)))):Option ((((List (List (Int × K72c5.T))))) ⊕ (Int × (List (List (Int × K72c5.T))))):=(bif decide (x11.1 < ((a0.toNat:Nat):Int)) then some true else some false:Option (Bool)).bind fun x12=>bif x12 then (line_Blank a1 a2).bind fun x13=>req (0 ≤ x11.1 ∧ x11.1 < ((a0.toNat:Nat):Int)) <| (x11.2[x11.1.toNat]?).bind fun x14=>some (.inr (IntKind.i64.wrap (x11.1 + 1),x11.2.set x11.1.toNat x13)) else some (.inl x11.2)
noncomputable def grid_Blank_d0d (a0:Int) (a1:Int) (a2:K92a5.T):Option ((List (List (Int × K72c5.T)))):=((grid_side a0).bind fun x4=>bif !x4 then some true else (grid_side a1).bind fun x5=>bif !x5 then some true else (pen_May a2).bind fun x6=>bif !x6 then some true else some false:Option (Bool)).bind fun x7=>bif x7 then some ([]) else req (0 ≤ a0 ∧ a0 ≤ a0 ∧ a0.toNat * 24 ≤ maxBy) <| (loopO (grid_Blank_d0d_loop1 a0 a1 a2) (0,(List.replicate a0.toNat []:List (List (Int × K72c5.T))))).bind fun x15=>req (a0.toNat = x15.length) (some x15)
noncomputable def tabs_side (a0:Int):Option (Bool):=bif decide (a0 ≥ 0) then some (decide (a0 < 200)) else some false
noncomputable def tabs_Set (a0:Int × Kf613.T) (a1:Int):Option ((Int × Kf613.T)):=(((tabs_side a1).bind fun x5=>bif x5 then some true else some false:Option (Bool)).bind fun x6=>bif x6 then bif (IntKind.i64.wrap (Int.tdiv a1 64)) == 0 then req (0 ≤ (Int.tmod a1 64)) <| bif (IntKind.i64.wrap (Int.tdiv a1 64)) == 0 then some (ibits .or .u64 a0.1 (IntKind.u64.wrap ((1:Int) * 2 ^ (min (Int.tmod a1 64).toNat 64))),a0.2.1,a0.2.2.1,a0.2.2.2) else bif (IntKind.i64.wrap (Int.tdiv a1 64)) == 1 then some (a0.1,ibits .or .u64 a0.1 (IntKind.u64.wrap ((1:Int) * 2 ^ (min (Int.tmod a1 64).toNat 64))),a0.2.2.1,a0.2.2.2) else bif (IntKind.i64.wrap (Int.tdiv a1 64)) == 2 then some (a0.1,a0.2.1,ibits .or .u64 a0.1 (IntKind.u64.wrap ((1:Int) * 2 ^ (min (Int.tmod a1 64).toNat 64))),a0.2.2.2) else bif (IntKind.i64.wrap (Int.tdiv a1 64)) == 3 then some (a0.1,a0.2.1,a0.2.2.1,ibits .or .u64 a0.1 (IntKind.u64.wrap ((1:Int) * 2 ^ (min (Int.tmod a1 64).toNat 64)))) else none else bif (IntKind.i64.wrap (Int.tdiv a1 64)) == 1 then req (0 ≤ (Int.tmod a1 64)) <| bif (IntKind.i64.wrap (Int.tdiv a1 64)) == 0 then some (ibits .or .u64 a0.2.1 (IntKind.u64.wrap ((1:Int) * 2 ^ (min (Int.tmod a1 64).toNat 64))),a0.2.1,a0.2.2.1,a0.2.2.2) else bif (IntKind.i64.wrap (Int.tdiv a1 64)) == 1 then some (a0.1,ibits .or .u64 a0.2.1 (IntKind.u64.wrap ((1:Int) * 2 ^ (min (Int.tmod a1 64).toNat 64))),a0.2.2.1,a0.2.2.2) else bif (IntKind.i64.wrap (Int.tdiv a1 64)) == 2 then some (a0.1,a0.2.1,ibits .or .u64 a0.2.1 (IntKind.u64.wrap ((1:Int) * 2 ^ (min (Int.tmod a1 64).toNat 64))),a0.2.2.2) else bif (IntKind.i64.wrap (Int.tdiv a1 64)) == 3 then some (a0.1,a0.2.1,a0.2.2.1,ibits .or .u64 a0.2.1 (IntKind.u64.wrap ((1:Int) * 2 ^ (min (Int.tmod a1 64).toNat 64)))) else none else bif (IntKind.i64.wrap (Int.tdiv a1 64)) == 2 then req (0 ≤ (Int.tmod a1 64)) <| bif (IntKind.i64.wrap (Int.tdiv a1 64)) == 0 then some (ibits .or .u64 a0.2.2.1 (IntKind.u64.wrap ((1:Int) * 2 ^ (min (Int.tmod a1 64).toNat 64))),a0.2.1,a0.2.2.1,a0.2.2.2) else bif (IntKind.i64.wrap (Int.tdiv a1 64)) == 1 then some (a0.1,ibits .or .u64 a0.2.2.1 (IntKind.u64.wrap ((1:Int) * 2 ^ (min (Int.tmod a1 64).toNat 64))),a0.2.2.1,a0.2.2.2) else bif (IntKind.i64.wrap (Int.tdiv a1 64)) == 2 then some (a0.1,a0.2.1,ibits .or .u64 a0.2.2.1 (IntKind.u64.wrap ((1:Int) * 2 ^ (min (Int.tmod a1 64).toNat 64))),a0.2.2.2) else bif (IntKind.i64.wrap (Int.tdiv a1 64)) == 3 then some (a0.1,a0.2.1,a0.2.2.1,ibits .or .u64 a0.2.2.1 (IntKind.u64.wrap ((1:Int) * 2 ^ (min (Int.tmod a1 64).toNat 64)))) else none else bif (IntKind.i64.wrap (Int.tdiv a1 64)) == 3 then req (0 ≤ (Int.tmod a1 64)) <| bif (IntKind.i64.wrap (Int.tdiv a1 64)) == 0 then some (ibits .or .u64 a0.2.2.2 (IntKind.u64.wrap ((1:Int) * 2 ^ (min (Int.tmod a1 64).toNat 64))),a0.2.1,a0.2.2.1,a0.2.2.2) else bif (IntKind.i64.wrap (Int.tdiv a1 64)) == 1 then some (a0.1,ibits .or .u64 a0.2.2.2 (IntKind.u64.wrap ((1:Int) * 2 ^ (min (Int.tmod a1 64).toNat 64))),a0.2.2.1,a0.2.2.2) else bif (IntKind.i64.wrap (Int.tdiv a1 64)) == 2 then some (a0.1,a0.2.1,ibits .or .u64 a0.2.2.2 (IntKind.u64.wrap ((1:Int) * 2 ^ (min (Int.tmod a1 64).toNat 64))),a0.2.2.2) else bif (IntKind.i64.wrap (Int.tdiv a1 64)) == 3 then some (a0.1,a0.2.1,a0.2.2.1,ibits .or .u64 a0.2.2.2 (IntKind.u64.wrap ((1:Int) * 2 ^ (min (Int.tmod a1 64).toNat 64)))) else none else none else some (a0.1,a0.2.1,a0.2.2.1,a0.2.2.2):Option (Int × Int × Int × Int)).bind fun x7=>some x7
noncomputable def tabs_Wider_loop1 (a2:Int) (a1:Int) (x7:Int × Int × Int × Int × Int):Option (((Int × Int × Int × Int)) ⊕ (Int × Int × Int × Int × Int)):=(bif decide (x7.1 < (if (200:Int) < a2 then (200:Int) else a2)) then some true else some false:Option (Bool)).bind fun x8=>bif x8 then ((bif decide (x7.1 ≥ a1) then some true else some false:Option (Bool)).bind fun x11=>bif x11 then (tabs_Set x7.2 x7.1).bind fun x12=>some (x12.1,x12.2.1,x12.2.2.1,x12.2.2.2) else some (x7.2.1,x7.2.2.1,x7.2.2.2.1,x7.2.2.2.2):Option (Int × Int × Int × Int)).bind fun x13=>some (.inr (IntKind.i64.wrap (x7.1 + 8),x13.1,x13.2.1,x13.2.2.1,x13.2.2.2)) else some (.inl (x7.2.1,x7.2.2.1,x7.2.2.2.1,x7.2.2.2.2))
noncomputable def tabs_Wider (a0:Int × Kf613.T) (a1:Int) (a2:Int):Option ((Int × Kf613.T)):=(loopO (tabs_Wider_loop1 a2 a1) (8,a0.1,a0.2.1,a0.2.2.1,a0.2.2.2)).bind fun x14=>some x14
noncomputable def tabs_Usual (a0:Int):Option ((Int × Kf613.T)):=(tabs_Wider (0,0,0,0) 0 a0).bind fun x1=>some x1
noncomputable def screen_New (a0:Int) (a1:Int):Option ((Int × Int × K05d1.T) × Int):=(grid_Blank_d0d a0 a1 (0,0,0)).bind fun x1=>(bif ((x1.length:Nat):Int) == 0 then some true else some false:Option (Bool)).bind fun x2=>bif x2 then some ((0,0,[],[],0,0,false,(0,0,0),0,0,0,((0,0,(0,0,0),false,false),0,0,(0,0,0),false,false),(0,0,0,0),[]),2) else (tabs_Usual a1).bind fun x3=>req (x1.length = x1.length) (some ((a0,a1,x1,[],0,0,false,(0,0,0),0,IntKind.i64.wrap (a0 - 1),9,((0,0,(0,0,0),false,false),0,0,(0,0,0),false,false),x3,[]),0))
noncomputable def cols_Of_1_030 (a0:Int) (a1:Int):Option (Bool):=(getI tab_bounds a0).bind fun x1=>some (decide (x1.2.1 ≥ a1))
noncomputable def sort_Search_4a9_loop1 (a1:Int) (x5:Int × Int):Option (((Int)) ⊕ (Int × Int)):=(bif decide (x5.1 < x5.2) then some true else some false:Option (Bool)).bind fun x6=>bif x6 then ((cols_Of_1_030 (IntKind.i64.wrap (Int.fdiv (IntKind.u64.wrap (IntKind.i64.wrap (x5.1 + x5.2))) (2 ^ 1))) a1).bind fun x8=>bif !x8 then some true else some false:Option (Bool)).bind fun x9=>bif x9 then some (.inr (IntKind.i64.wrap ((IntKind.i64.wrap (Int.fdiv (IntKind.u64.wrap (IntKind.i64.wrap (x5.1 + x5.2))) (2 ^ 1))) + 1),x5.2)) else some (.inr (x5.1,IntKind.i64.wrap (Int.fdiv (IntKind.u64.wrap (IntKind.i64.wrap (x5.1 + x5.2))) (2 ^ 1)))) else some (.inl x5.1)
noncomputable def sort_Search_4a9 (a0:Int) (a1:Int):Option (Int):=(loopO (sort_Search_4a9_loop1 a1) (0,a0)).bind fun x10=>some x10
noncomputable def cols_Of (a0:Int):Option (Int):=(bif decide (a0 < 32) then some true else bif decide (a0 ≥ 127) then bif decide (a0 < 160) then some true else bif decide (a0 ≥ 55296) then bif decide (a0 ≤ 57343) then some true else bif decide (a0 > 1114111) then some true else some false else bif decide (a0 > 1114111) then some true else some false else bif decide (a0 ≥ 55296) then bif decide (a0 ≤ 57343) then some true else bif decide (a0 > 1114111) then some true else some false else bif decide (a0 > 1114111) then some true else some false:Option (Bool)).bind fun x1=>bif x1 then some (-1) else (sort_Search_4a9 22 a0).bind fun x2=>(bif decide (x2 < 22) then (getI tab_bounds x2).bind fun x4=>bif decide (x4.1 ≤ a0) then some true else some false else some false:Option (Bool)).bind fun x5=>bif x5 then (getI tab_bounds x2).bind fun x6=>some (IntKind.i64.wrap x6.2.2) else some 1
noncomputable def line_marked (a0:Int × Int):Option (Bool):=(bif a0.1 == 0 then some true else some false:Option (Bool)).bind fun x1=>bif x1 then some (a0.2 == 0) else (cols_Of a0.1).bind fun x2=>bif x2 == 0 then bif a0.2 == 0 then some true else (cols_Of a0.2).bind fun x3=>some (x3 == 0) else some false
noncomputable def line_may (a0:Int × K72c5.T):Option (Bool):=((bif a0.2.2.1 == 0 then some true else some false:Option (Bool)).bind fun x2=>bif x2 then some x2 else bif a0.2.2.1 == 1 then some true else some false:Option (Bool)).bind fun x3=>bif x3 then (pen_May a0.2.2.2).bind fun x4=>bif x4 then (cols_Of a0.1).bind fun x5=>bif x5 == (IntKind.i64.wrap (a0.2.2.1 + 1)) then (line_marked a0.2.1).bind fun x6=>some x6 else some false else some false else (bif a0.2.2.1 == 2 then some true else some false:Option (Bool)).bind fun x7=>bif x7 then (pen_May a0.2.2.2).bind fun x8=>bif x8 then some ((a0.1 == 0) && (((a0.2.1.1 == 0) && ((a0.2.1.2 == 0) && true)) && ((a0.2.2.1 == 2) && (((a0.2.2.2.1 == a0.2.2.2.1) && ((a0.2.2.2.2.1 == a0.2.2.2.2.1) && ((a0.2.2.2.2.2 == a0.2.2.2.2.2) && true))) && true)))) else some false else some false
noncomputable def line_May_loop1 (a0:List (Int × K72c5.T)) (x7:Int):Option (((Unit) ⊕ (Unit)) ⊕ (Int)):=(bif decide (x7 < (a0.length:Int)) then some true else some false:Option (Bool)).bind fun x8=>bif x8 then (getI a0 x7).bind fun x9=>(bif decide (x7 > 0) then (getI a0 (IntKind.i64.wrap (x7 - 1))).bind fun x11=>some (x11.2.2.1 == 1) else some false:Option (Bool)).bind fun x12=>((line_may x9).bind fun x15=>bif !x15 then some true else bif !(x12 == (x9.2.2.1 == 2)) then some true else bif x12 then (getI a0 (IntKind.i64.wrap (x7 - 1))).bind fun x16=>bif !((x16.2.2.2.1 == x9.2.2.2.1) && ((x16.2.2.2.2.1 == x9.2.2.2.2.1) && ((x16.2.2.2.2.2 == x9.2.2.2.2.2) && true))) then some true else bif x9.2.2.1 == 1 then bif x7 == (IntKind.i64.wrap ((a0.length:Int) - 1)) then some true else some false else some false else bif x9.2.2.1 == 1 then bif x7 == (IntKind.i64.wrap ((a0.length:Int) - 1)) then some true else some false else some false:Option (Bool)).bind fun x17=>bif x17 then some (.inl (.inl ())) else some (.inr (IntKind.i64.wrap (x7 + 1))) else some (.inl (.inr ()))
noncomputable def line_May (a0:List (Int × K72c5.T)):Option (Bool):=(bif decide ((a0.length:Int) > 1000) then some true else some false:Option (Bool)).bind fun x1=>bif x1 then some false else (loopO (line_May_loop1 a0) 0).bind fun o=>match o with | .inl _=>some false | .inr _=>some true
noncomputable def grid_May_1_649 (a0:List (Int × K72c5.T)) (a1:List (List (Int × K72c5.T))):Option (Bool):=(getI a1 0).bind fun x1=>bif (a0.length:Int) != (x1.length:Int) then some true else (line_May a0).bind fun x2=>some (!x2)
noncomputable def slices_IndexFunc_dd0_loop1 (a0:List (List (Int × K72c5.T))) (a1:List (List (Int × K72c5.T))) (x7:Int):Option (((Int) ⊕ (Unit)) ⊕ (Int)):=(bif decide (x7 < (a0.length:Int)) then some true else some false:Option (Bool)).bind fun x8=>bif x8 then ((getI a0 x7).bind fun x11=>(grid_May_1_649 x11 a1).bind fun x12=>bif x12 then some true else some false:Option (Bool)).bind fun x13=>bif x13 then some (.inl (.inl x7)) else some (.inr (IntKind.i64.wrap (x7 + 1))) else some (.inl (.inr ()))
noncomputable def slices_IndexFunc_dd0 (a0:List (List (Int × K72c5.T))) (a1:List (List (Int × K72c5.T))):Option (Int):=(loopO (slices_IndexFunc_dd0_loop1 a0 a1) 0).bind fun o=>match o with | .inl x14=>some x14 | .inr _=>some (-1)
noncomputable def slices_ContainsFunc_dd0 (a0:List (List (Int × K72c5.T))) (a1:List (List (Int × K72c5.T))):Option (Bool):=(slices_IndexFunc_dd0 a0 a1).bind fun x1=>some (decide (x1 ≥ 0))
noncomputable def grid_May (a0:List (List (Int × K72c5.T))):Option (Bool):=((grid_side (a0.length:Int)).bind fun x4=>bif !x4 then some true else (getI a0 0).bind fun x5=>(grid_side (x5.length:Int)).bind fun x6=>bif !x6 then some true else some false:Option (Bool)).bind fun x7=>bif x7 then some false else (slices_ContainsFunc_dd0 a0 a0).bind fun x8=>some (!x8)
noncomputable def screen_sized (a0:List (List (Int × K72c5.T))) (a1:Int × Int × K05d1.T):Option (Bool):=(grid_May a0).bind fun x1=>bif x1 then bif (a0.length:Int) == a1.1 then (getI a0 0).bind fun x2=>some ((x2.length:Int) == a1.2.1) else some false else some false
noncomputable def screen_May_1_1b3 (a0:Int) (a1:Int):Option (Bool):=bif decide (a0 ≥ 0) then some (decide (a0 < a1)) else some false
noncomputable def screen_spot_1 (a0:Int):Option (Bool):=bif decide (a0 ≥ 0) then some (decide (a0 < 200)) else some false
noncomputable def screen_spot (a0:K36e7.T):Option (Bool):=(screen_spot_1 a0.1).bind fun x1=>bif x1 then (screen_spot_1 a0.2.1).bind fun x2=>bif x2 then (pen_May a0.2.2.1).bind fun x3=>some x3 else some false else some false
noncomputable def screen_titled_1 (a0:Int):Option (Bool):=(cols_Of a0).bind fun x1=>some (decide (x1 < 1))
noncomputable def slices_IndexFunc_c49_loop1 (a0:List Int) (x7:Int):Option (((Int) ⊕ (Unit)) ⊕ (Int)):=(bif decide (x7 < (a0.length:Int)) then some true else some false:Option (Bool)).bind fun x8=>bif x8 then ((getI a0 x7).bind fun x11=>(screen_titled_1 x11).bind fun x12=>bif x12 then some true else some false:Option (Bool)).bind fun x13=>bif x13 then some (.inl (.inl x7)) else some (.inr (IntKind.i64.wrap (x7 + 1))) else some (.inl (.inr ()))
noncomputable def slices_IndexFunc_c49 (a0:List Int):Option (Int):=(loopO (slices_IndexFunc_c49_loop1 a0) 0).bind fun o=>match o with | .inl x14=>some x14 | .inr _=>some (-1)
noncomputable def slices_ContainsFunc_c49 (a0:List Int):Option (Bool):=(slices_IndexFunc_c49 a0).bind fun x1=>some (decide (x1 ≥ 0))
noncomputable def screen_titled (a0:List Int):Option (Bool):=bif decide ((a0.length:Int) ≤ 60) then (slices_ContainsFunc_c49 a0).bind fun x1=>some (!x1) else some false
noncomputable def screen_May (a0:Int × Int × K05d1.T):Option (Bool):=((screen_sized a0.2.2.1 a0).bind fun x3=>bif !x3 then some true else bif !(((ibits .and .i64 a0.2.2.2.2.2.2.2.2.2.2.1 128) != 0) == (decide ((a0.2.2.2.1.length:Int) > 0))) then some true else bif (ibits .and .i64 a0.2.2.2.2.2.2.2.2.2.2.1 128) != 0 then (screen_sized a0.2.2.2.1 a0).bind fun x4=>bif !x4 then some true else some false else some false:Option (Bool)).bind fun x5=>bif x5 then some false else ((screen_May_1_1b3 a0.2.2.2.2.1 a0.1).bind fun x9=>bif !x9 then some true else (screen_May_1_1b3 a0.2.2.2.2.2.2.2.2.1 a0.1).bind fun x10=>bif !x10 then some true else (screen_May_1_1b3 a0.2.2.2.2.2.2.2.2.2.1 a0.1).bind fun x11=>bif !x11 then some true else bif decide (a0.2.2.2.2.2.1 < 0) then some true else bif decide (a0.2.2.2.2.2.1 ≥ a0.2.1) then some true else bif a0.2.2.2.2.2.2.1 then bif decide (a0.2.2.2.2.2.1 < (IntKind.i64.wrap (a0.2.1 - 1))) then some true else some false else some false:Option (Bool)).bind fun x12=>bif x12 then some false else (bif decide (a0.2.2.2.2.2.2.2.2.1 ≥ a0.2.2.2.2.2.2.2.2.2.1) then bif decide (a0.1 > 1) then some true else bif decide (a0.2.2.2.2.2.2.2.2.2.2.1 < 0) then some true else bif decide (a0.2.2.2.2.2.2.2.2.2.2.1 > 255) then some true else some false else bif decide (a0.2.2.2.2.2.2.2.2.2.2.1 < 0) then some true else bif decide (a0.2.2.2.2.2.2.2.2.2.2.1 > 255) then some true else some false:Option (Bool)).bind fun x13=>bif x13 then some false else (pen_May a0.2.2.2.2.2.2.2.1).bind fun x14=>bif x14 then (screen_spot a0.2.2.2.2.2.2.2.2.2.2.2.1.1).bind fun x15=>bif x15 then (screen_spot a0.2.2.2.2.2.2.2.2.2.2.2.1.2).bind fun x16=>bif x16 then (screen_titled a0.2.2.2.2.2.2.2.2.2.2.2.2.2).bind fun x17=>some x17 else some false else some false else some false
noncomputable def slices_Clone_4da_raw (a0:List (Int × K72c5.T)):Option ((List (Int × K72c5.T))):=bif a0.isEmpty then agree (some ([])) (req ((([]:List (Int × K72c5.T)) ++ a0).length * 48 ≤ maxBy) <| req ((([]:List (Int × K72c5.T)) ++ a0).length = (([]:List (Int × K72c5.T)) ++ a0).length) (some (([]:List (Int × K72c5.T)) ++ a0))) else req ((([]:List (Int × K72c5.T)) ++ a0).length * 48 ≤ maxBy) <| req ((([]:List (Int × K72c5.T)) ++ a0).length = (([]:List (Int × K72c5.T)) ++ a0).length) (some (([]:List (Int × K72c5.T)) ++ a0))
noncomputable def slices_Clone_4da (a0:List (Int × K72c5.T)):Option ((List (Int × K72c5.T))):=req (a0.length * 48 ≤ maxBy) (some a0)
theorem slices_Clone_4da_law (a0:List (Int × K72c5.T)) {v:((List (Int × K72c5.T)))} (h:slices_Clone_4da a0 = some v):slices_Clone_4da_raw a0 = some v:=clone_law h
noncomputable def screen_copied_ed7_loop1 (a0:List (List (Int × K72c5.T))) (x4:Int × (List (List (Int × K72c5.T)))):Option ((((List (List (Int × K72c5.T))))) ⊕ (Int × (List (List (Int × K72c5.T))))):=(bif decide (x4.1 < (a0.length:Int)) then some true else some false:Option (Bool)).bind fun x5=>bif x5 then (getI a0 x4.1).bind fun x6=>(slices_Clone_4da x6).bind fun x7=>req (x4.2.length = x4.2.length) <| req ((x4.2 ++ [x7]).length * 24 ≤ maxBy) <| req ((x4.2 ++ [x7]).length = (x4.2 ++ [x7]).length) (some (.inr (IntKind.i64.wrap (x4.1 + 1),x4.2 ++ [x7]))) else req (x4.2.length = x4.2.length) (some (.inl x4.2))
noncomputable def screen_copied_ed7 (a0:List (List (Int × K72c5.T))):Option ((List (List (Int × K72c5.T)))):=(loopO (screen_copied_ed7_loop1 a0) (0,[])).bind fun x8=>req (x8.length = x8.length) (some x8)
noncomputable def slices_Clone_6e9_raw (a0:List (Int × K72c5.T)):Option ((List (Int × K72c5.T))):=bif a0.isEmpty then agree (some ([])) (req ((([]:List (Int × K72c5.T)) ++ a0).length * 48 ≤ maxBy) <| req ((([]:List (Int × K72c5.T)) ++ a0).length = (([]:List (Int × K72c5.T)) ++ a0).length) (some (([]:List (Int × K72c5.T)) ++ a0))) else req ((([]:List (Int × K72c5.T)) ++ a0).length * 48 ≤ maxBy) <| req ((([]:List (Int × K72c5.T)) ++ a0).length = (([]:List (Int × K72c5.T)) ++ a0).length) (some (([]:List (Int × K72c5.T)) ++ a0))
noncomputable def slices_Clone_6e9 (a0:List (Int × K72c5.T)):Option ((List (Int × K72c5.T))):=req (a0.length * 48 ≤ maxBy) (some a0)
theorem slices_Clone_6e9_law (a0:List (Int × K72c5.T)) {v:((List (Int × K72c5.T)))} (h:slices_Clone_6e9 a0 = some v):slices_Clone_6e9_raw a0 = some v:=clone_law h
noncomputable def screen_copied_b13_loop1 (a0:List (List (Int × K72c5.T))) (x4:Int × (List (List (Int × K72c5.T)))):Option ((((List (List (Int × K72c5.T))))) ⊕ (Int × (List (List (Int × K72c5.T))))):=(bif decide (x4.1 < (a0.length:Int)) then some true else some false:Option (Bool)).bind fun x5=>bif x5 then (getI a0 x4.1).bind fun x6=>(slices_Clone_6e9 x6).bind fun x7=>req (x4.2.length = x4.2.length) <| req ((x4.2 ++ [x7]).length * 24 ≤ maxBy) <| req ((x4.2 ++ [x7]).length = (x4.2 ++ [x7]).length) (some (.inr (IntKind.i64.wrap (x4.1 + 1),x4.2 ++ [x7]))) else req (x4.2.length = x4.2.length) (some (.inl x4.2))
noncomputable def screen_copied_b13 (a0:List (List (Int × K72c5.T))):Option ((List (List (Int × K72c5.T)))):=(loopO (screen_copied_b13_loop1 a0) (0,[])).bind fun x8=>req (x8.length = x8.length) (some x8)
noncomputable def slices_Clone_b44_raw (a0:List Int):Option (List Int):=bif a0.isEmpty then agree (some ([])) (req ((([]:List (Int)) ++ a0).length * 4 ≤ maxBy) <| req ((([]:List (Int)) ++ a0).length = (([]:List (Int)) ++ a0).length) (some (([]:List (Int)) ++ a0))) else req ((([]:List (Int)) ++ a0).length * 4 ≤ maxBy) <| req ((([]:List (Int)) ++ a0).length = (([]:List (Int)) ++ a0).length) (some (([]:List (Int)) ++ a0))
noncomputable def slices_Clone_b44 (a0:List Int):Option (List Int):=req (a0.length * 4 ≤ maxBy) (some a0)
theorem slices_Clone_b44_law {a0:List Int} {v:(List Int)} (h:slices_Clone_b44 a0 = some v):slices_Clone_b44_raw a0 = some v:=clone_law h
noncomputable def screen_between (a0:Int) (a1:Int) (a2:Int):Option (Int):=some (if (if a2 < a0 then a2 else a0) > a1 then (if a2 < a0 then a2 else a0) else a1)
noncomputable def slices_Clone_0e3_raw (a0:List (Int × K72c5.T)):Option ((List (Int × K72c5.T))):=bif a0.isEmpty then agree (some ([])) (req ((([]:List (Int × K72c5.T)) ++ a0).length * 48 ≤ maxBy) <| req ((([]:List (Int × K72c5.T)) ++ a0).length = (([]:List (Int × K72c5.T)) ++ a0).length) (some (([]:List (Int × K72c5.T)) ++ a0))) else req ((([]:List (Int × K72c5.T)) ++ a0).length * 48 ≤ maxBy) <| req ((([]:List (Int × K72c5.T)) ++ a0).length = (([]:List (Int × K72c5.T)) ++ a0).length) (some (([]:List (Int × K72c5.T)) ++ a0))
noncomputable def slices_Clone_0e3 (a0:List (Int × K72c5.T)):Option ((List (Int × K72c5.T))):=req (a0.length * 48 ≤ maxBy) (some a0)
theorem slices_Clone_0e3_law {a0:List (Int × K72c5.T)} {v:((List (Int × K72c5.T)))} (h:slices_Clone_0e3 a0 = some v):slices_Clone_0e3_raw a0 = some v:=clone_law h
noncomputable def line_Mark_5ae_loop1 (x15:Int × K72c5.T) (x14:Int) (x4:(List (Int × K72c5.T))) (a2:Int) (x18:Int):Option ((((List (Int × K72c5.T)))) ⊕ (Int)):=(bif decide (x18 < 2) then some true else some false:Option (Bool)).bind fun x19=>bif x19 then (bif x18 == 0 then some (x18,x15.2.1.1) else bif x18 == 1 then some (x18,x15.2.1.2) else none:Option (Int × Int)).bind fun x20=>(bif x20.2 == 0 then some true else some false:Option (Bool)).bind fun x21=>bif x21 then req (0 ≤ x14 ∧ x14 < ((x4.length:Nat):Int)) <| bif x20.1 == 0 then (x4[x14.toNat]?).bind fun x23=>some (.inl (x4.set x14.toNat (x23.1,(a2,x23.2.1.2),x23.2.2))) else bif x20.1 == 1 then (x4[x14.toNat]?).bind fun x22=>some (.inl (x4.set x14.toNat (x22.1,(x22.2.1.1,a2),x22.2.2))) else none else some (.inr (IntKind.i64.wrap (x18 + 1))) else some (.inl x4)
noncomputable def line_Mark_5ae (a0:List (Int × K72c5.T)) (a1:Int) (a2:Int):Option ((List (Int × K72c5.T))):=((line_May a0).bind fun x2=>bif !x2 then some true else some false:Option (Bool)).bind fun x3=>bif x3 then some ([]) else (slices_Clone_0e3 a0).bind fun x4=>(bif decide (a1 < 0) then some true else bif decide (a1 ≥ (a0.length:Int)) then some true else (cols_Of a2).bind fun x6=>bif x6 != 0 then some true else some false:Option (Bool)).bind fun x7=>bif x7 then req (x4.length = x4.length) (some x4) else (((getI a0 a1).bind fun x12=>bif x12.2.2.1 == 2 then some true else some false:Option (Bool)).bind fun x13=>bif x13 then some (IntKind.i64.wrap (a1 - 1)) else some a1:Option (Int)).bind fun x14=>req (0 ≤ x14 ∧ x14 < ((x4.length:Nat):Int)) <| (x4[x14.toNat]?).bind fun x15=>(loopO (line_Mark_5ae_loop1 x15 x14 x4 a2) 0).bind fun x24=>req (x4.length = x24.length) (some x24)
noncomputable def grid_copied_3fa_loop1 (a0:List (List (Int × K72c5.T))) (x5:Int × (List (List (Int × K72c5.T)))):Option ((((List (List (Int × K72c5.T))))) ⊕ (Int × (List (List (Int × K72c5.T))))):=(bif decide (x5.1 < ((a0.length:Nat):Int)) then some true else some false:Option (Bool)).bind fun x6=>bif x6 then req (0 ≤ x5.1 ∧ x5.1 < ((a0.length:Nat):Int)) <| (a0[x5.1.toNat]?).bind fun x7=>(slices_Clone_4da x7).bind fun x8=>req (0 ≤ x5.1 ∧ x5.1 < ((((a0.length:Nat):Int).toNat:Nat):Int)) <| (x5.2[x5.1.toNat]?).bind fun x9=>some (.inr (IntKind.i64.wrap (x5.1 + 1),x5.2.set x5.1.toNat x8)) else some (.inl x5.2)
noncomputable def grid_copied_3fa (a0:List (List (Int × K72c5.T))):Option ((List (List (Int × K72c5.T)))):=req (0 ≤ ((a0.length:Nat):Int) ∧ ((a0.length:Nat):Int) ≤ ((a0.length:Nat):Int) ∧ ((a0.length:Nat):Int).toNat * 24 ≤ maxBy) <| (loopO (grid_copied_3fa_loop1 a0) (0,(List.replicate (((a0.length:Nat):Int).toNat) []:List (List (Int × K72c5.T))))).bind fun x10=>req (((a0.length:Nat):Int).toNat = x10.length) (some x10)
noncomputable def slices_Repeat_068_loop1 (x2:Int × Int) (x5:Int × (List (Int × K72c5.T))):Option ((((List (Int × K72c5.T)))) ⊕ (Int × (List (Int × K72c5.T)))):=(bif decide (x5.1 < (((IntKind.i64.wrap x2.2).toNat:Nat):Int)) then some true else some false:Option (Bool)).bind fun x6=>bif x6 then req (0 ≤ x5.1 ∧ x5.1 ≤ (((IntKind.i64.wrap x2.2).toNat:Nat):Int) ∧ (((IntKind.i64.wrap x2.2).toNat:Nat):Int) ≤ (((IntKind.i64.wrap x2.2).toNat:Nat):Int)) <| req (0 ≤ (0:Int) ∧ (0:Int) ≤ x5.1 ∧ x5.1 ≤ (((IntKind.i64.wrap x2.2).toNat:Nat):Int)) <| req (x5.1.toNat + ((IntKind.i64.wrap x2.2).toNat - x5.1.toNat) ≤ x5.2.length) <| req (0 + x5.1.toNat ≤ x5.2.length) <| some (.inr (IntKind.i64.wrap (x5.1 + ((min ((x5.2.drop 0).take x5.1.toNat).length ((IntKind.i64.wrap x2.2).toNat - x5.1.toNat):Nat):Int)),cpy x5.2 x5.1.toNat ((x5.2.drop 0).take x5.1.toNat) (min ((x5.2.drop 0).take x5.1.toNat).length ((IntKind.i64.wrap x2.2).toNat - x5.1.toNat)))) else some (.inl x5.2)
noncomputable def slices_Repeat_068 (a0:List (Int × K72c5.T)) (a1:Int):Option ((List (Int × K72c5.T))):=(bif decide (a1 < 0) then some true else some false:Option (Bool)).bind fun x1=>bif x1 then none else (bits_Mul (IntKind.u64.wrap (a0.length:Int)) (IntKind.u64.wrap a1)).bind fun x2=>(bif decide (x2.1 > 0) then some true else bif decide (x2.2 > 9223372036854775807) then some true else some false:Option (Bool)).bind fun x3=>bif x3 then none else req (0 ≤ (IntKind.i64.wrap x2.2) ∧ (IntKind.i64.wrap x2.2) ≤ (IntKind.i64.wrap x2.2) ∧ (IntKind.i64.wrap x2.2).toNat * 48 ≤ maxBy) <| req (0 + ((IntKind.i64.wrap x2.2).toNat) ≤ (List.replicate ((IntKind.i64.wrap x2.2).toNat) (0,(0,0),0,0,0,0):List (Int × K72c5.T)).length) <| (loopO (slices_Repeat_068_loop1 x2) (((min a0.length ((IntKind.i64.wrap x2.2).toNat):Nat):Int),cpy (List.replicate ((IntKind.i64.wrap x2.2).toNat) (0,(0,0),0,0,0,0):List (Int × K72c5.T)) 0 a0 (min a0.length ((IntKind.i64.wrap x2.2).toNat)))).bind fun x7=>req ((IntKind.i64.wrap x2.2).toNat = x7.length) (some x7)
noncomputable def line_Blank_92f (a0:Int) (a1:K92a5.T):Option ((List (Int × K72c5.T))):=(bif decide (a0 < 0) then some true else bif decide (a0 > 1000) then some true else (pen_May a1).bind fun x2=>bif !x2 then some true else some false:Option (Bool)).bind fun x3=>bif x3 then some ([]) else (line_blank a1).bind fun x4=>(slices_Repeat_068 [x4] a0).bind fun x5=>some x5
noncomputable def grid_Scroll_274_loop1 (x10:Nat × Nat × (List (List (Int × K72c5.T)))) (a4:List (List (Int × K72c5.T))) (a3:K92a5.T) (x15:Int × (List (List (Int × K72c5.T)))):Option ((((List (List (Int × K72c5.T))))) ⊕ (Int × (List (List (Int × K72c5.T))))):=(bif decide (x15.1 < ((x10.2.1:Nat):Int)) then some true else some false:Option (Bool)).bind fun x16=>bif x16 then req (0 ≤ (0:Int) ∧ (0:Int) < ((a4.length:Nat):Int)) <| (a4[(0:Int).toNat]?).bind fun x17=>(line_Blank_92f (x17.length:Int) a3).bind fun x18=>req (0 ≤ x15.1 ∧ x15.1 < ((x10.2.1:Nat):Int)) <| (x15.2[x15.1.toNat + x10.1]?).bind fun x19=>some (.inr (IntKind.i64.wrap (x15.1 + 1),x15.2.set (x15.1.toNat + x10.1) x18)) else some (.inl x15.2)
noncomputable def grid_Scroll_274 (a0:Int) (a1:Int) (a2:Int) (a3:K92a5.T) (a4:List (List (Int × K72c5.T))):Option ((List (List (Int × K72c5.T)))):=(req (a4.length = a4.length) <| (grid_May a4).bind fun x3=>bif !x3 then some true else (pen_May a3).bind fun x4=>bif !x4 then some true else some false:Option (Bool)).bind fun x5=>bif x5 then some ([]) else req (a4.length = a4.length) <| (grid_copied_3fa a4).bind fun x6=>(bif decide (a0 < 0) then some true else bif decide (a0 > a1) then some true else bif decide (a1 ≥ ((a4.length:Nat):Int)) then some true else some false:Option (Bool)).bind fun x7=>bif x7 then req (x6.length = x6.length) (some x6) else req (0 ≤ a0 ∧ a0 ≤ (IntKind.i64.wrap (a1 + 1)) ∧ (IntKind.i64.wrap (a1 + 1)) ≤ ((x6.length:Nat):Int)) <| ((bif decide ((if (if (((IntKind.i64.wrap (a1 + 1)).toNat - a0.toNat:Nat):Int) < a2 then (((IntKind.i64.wrap (a1 + 1)).toNat - a0.toNat:Nat):Int) else a2) > (IntKind.i64.wrap ((0:Int) - (((IntKind.i64.wrap (a1 + 1)).toNat - a0.toNat:Nat):Int))) then (if (((IntKind.i64.wrap (a1 + 1)).toNat - a0.toNat:Nat):Int) < a2 then (((IntKind.i64.wrap (a1 + 1)).toNat - a0.toNat:Nat):Int) else a2) else (IntKind.i64.wrap ((0:Int) - (((IntKind.i64.wrap (a1 + 1)).toNat - a0.toNat:Nat):Int)))) ≥ 0) then some true else some false:Option (Bool)).bind fun x9=>bif x9 then req (0 ≤ (if (if (((IntKind.i64.wrap (a1 + 1)).toNat - a0.toNat:Nat):Int) < a2 then (((IntKind.i64.wrap (a1 + 1)).toNat - a0.toNat:Nat):Int) else a2) > (IntKind.i64.wrap ((0:Int) - (((IntKind.i64.wrap (a1 + 1)).toNat - a0.toNat:Nat):Int))) then (if (((IntKind.i64.wrap (a1 + 1)).toNat - a0.toNat:Nat):Int) < a2 then (((IntKind.i64.wrap (a1 + 1)).toNat - a0.toNat:Nat):Int) else a2) else (IntKind.i64.wrap ((0:Int) - (((IntKind.i64.wrap (a1 + 1)).toNat - a0.toNat:Nat):Int)))) ∧ (if (if (((IntKind.i64.wrap (a1 + 1)).toNat - a0.toNat:Nat):Int) < a2 then (((IntKind.i64.wrap (a1 + 1)).toNat - a0.toNat:Nat):Int) else a2) > (IntKind.i64.wrap ((0:Int) - (((IntKind.i64.wrap (a1 + 1)).toNat - a0.toNat:Nat):Int))) then (if (((IntKind.i64.wrap (a1 + 1)).toNat - a0.toNat:Nat):Int) < a2 then (((IntKind.i64.wrap (a1 + 1)).toNat - a0.toNat:Nat):Int) else a2) else (IntKind.i64.wrap ((0:Int) - (((IntKind.i64.wrap (a1 + 1)).toNat - a0.toNat:Nat):Int)))) ≤ (((IntKind.i64.wrap (a1 + 1)).toNat - a0.toNat:Nat):Int) ∧ (((IntKind.i64.wrap (a1 + 1)).toNat - a0.toNat:Nat):Int) ≤ (((IntKind.i64.wrap (a1 + 1)).toNat - a0.toNat:Nat):Int)) <| req (a0.toNat + ((IntKind.i64.wrap (a1 + 1)).toNat - a0.toNat) ≤ x6.length) <| req (((if (if (((IntKind.i64.wrap (a1 + 1)).toNat - a0.toNat:Nat):Int) < a2 then (((IntKind.i64.wrap (a1 + 1)).toNat - a0.toNat:Nat):Int) else a2) > (IntKind.i64.wrap ((0:Int) - (((IntKind.i64.wrap (a1 + 1)).toNat - a0.toNat:Nat):Int))) then (if (((IntKind.i64.wrap (a1 + 1)).toNat - a0.toNat:Nat):Int) < a2 then (((IntKind.i64.wrap (a1 + 1)).toNat - a0.toNat:Nat):Int) else a2) else (IntKind.i64.wrap ((0:Int) - (((IntKind.i64.wrap (a1 + 1)).toNat - a0.toNat:Nat):Int)))).toNat + a0.toNat) + ((IntKind.i64.wrap (a1 + 1)).toNat - a0.toNat - (if (if (((IntKind.i64.wrap (a1 + 1)).toNat - a0.toNat:Nat):Int) < a2 then (((IntKind.i64.wrap (a1 + 1)).toNat - a0.toNat:Nat):Int) else a2) > (IntKind.i64.wrap ((0:Int) - (((IntKind.i64.wrap (a1 + 1)).toNat - a0.toNat:Nat):Int))) then (if (((IntKind.i64.wrap (a1 + 1)).toNat - a0.toNat:Nat):Int) < a2 then (((IntKind.i64.wrap (a1 + 1)).toNat - a0.toNat:Nat):Int) else a2) else (IntKind.i64.wrap ((0:Int) - (((IntKind.i64.wrap (a1 + 1)).toNat - a0.toNat:Nat):Int)))).toNat) ≤ x6.length) <| req (0 ≤ (IntKind.i64.wrap ((((IntKind.i64.wrap (a1 + 1)).toNat - a0.toNat:Nat):Int) - (if (if (((IntKind.i64.wrap (a1 + 1)).toNat - a0.toNat:Nat):Int) < a2 then (((IntKind.i64.wrap (a1 + 1)).toNat - a0.toNat:Nat):Int) else a2) > (IntKind.i64.wrap ((0:Int) - (((IntKind.i64.wrap (a1 + 1)).toNat - a0.toNat:Nat):Int))) then (if (((IntKind.i64.wrap (a1 + 1)).toNat - a0.toNat:Nat):Int) < a2 then (((IntKind.i64.wrap (a1 + 1)).toNat - a0.toNat:Nat):Int) else a2) else (IntKind.i64.wrap ((0:Int) - (((IntKind.i64.wrap (a1 + 1)).toNat - a0.toNat:Nat):Int)))))) ∧ (IntKind.i64.wrap ((((IntKind.i64.wrap (a1 + 1)).toNat - a0.toNat:Nat):Int) - (if (if (((IntKind.i64.wrap (a1 + 1)).toNat - a0.toNat:Nat):Int) < a2 then (((IntKind.i64.wrap (a1 + 1)).toNat - a0.toNat:Nat):Int) else a2) > (IntKind.i64.wrap ((0:Int) - (((IntKind.i64.wrap (a1 + 1)).toNat - a0.toNat:Nat):Int))) then (if (((IntKind.i64.wrap (a1 + 1)).toNat - a0.toNat:Nat):Int) < a2 then (((IntKind.i64.wrap (a1 + 1)).toNat - a0.toNat:Nat):Int) else a2) else (IntKind.i64.wrap ((0:Int) - (((IntKind.i64.wrap (a1 + 1)).toNat - a0.toNat:Nat):Int)))))) ≤ (((IntKind.i64.wrap (a1 + 1)).toNat - a0.toNat:Nat):Int) ∧ (((IntKind.i64.wrap (a1 + 1)).toNat - a0.toNat:Nat):Int) ≤ (((IntKind.i64.wrap (a1 + 1)).toNat - a0.toNat:Nat):Int)) <| some ((IntKind.i64.wrap ((((IntKind.i64.wrap (a1 + 1)).toNat - a0.toNat:Nat):Int) - (if (if (((IntKind.i64.wrap (a1 + 1)).toNat - a0.toNat:Nat):Int) < a2 then (((IntKind.i64.wrap (a1 + 1)).toNat - a0.toNat:Nat):Int) else a2) > (IntKind.i64.wrap ((0:Int) - (((IntKind.i64.wrap (a1 + 1)).toNat - a0.toNat:Nat):Int))) then (if (((IntKind.i64.wrap (a1 + 1)).toNat - a0.toNat:Nat):Int) < a2 then (((IntKind.i64.wrap (a1 + 1)).toNat - a0.toNat:Nat):Int) else a2) else (IntKind.i64.wrap ((0:Int) - (((IntKind.i64.wrap (a1 + 1)).toNat - a0.toNat:Nat):Int)))))).toNat + a0.toNat,(IntKind.i64.wrap (a1 + 1)).toNat - a0.toNat - (IntKind.i64.wrap ((((IntKind.i64.wrap (a1 + 1)).toNat - a0.toNat:Nat):Int) - (if (if (((IntKind.i64.wrap (a1 + 1)).toNat - a0.toNat:Nat):Int) < a2 then (((IntKind.i64.wrap (a1 + 1)).toNat - a0.toNat:Nat):Int) else a2) > (IntKind.i64.wrap ((0:Int) - (((IntKind.i64.wrap (a1 + 1)).toNat - a0.toNat:Nat):Int))) then (if (((IntKind.i64.wrap (a1 + 1)).toNat - a0.toNat:Nat):Int) < a2 then (((IntKind.i64.wrap (a1 + 1)).toNat - a0.toNat:Nat):Int) else a2) else (IntKind.i64.wrap ((0:Int) - (((IntKind.i64.wrap (a1 + 1)).toNat - a0.toNat:Nat):Int)))))).toNat,cpy x6 a0.toNat ((x6.drop ((if (if (((IntKind.i64.wrap (a1 + 1)).toNat - a0.toNat:Nat):Int) < a2 then (((IntKind.i64.wrap (a1 + 1)).toNat - a0.toNat:Nat):Int) else a2) > (IntKind.i64.wrap ((0:Int) - (((IntKind.i64.wrap (a1 + 1)).toNat - a0.toNat:Nat):Int))) then (if (((IntKind.i64.wrap (a1 + 1)).toNat - a0.toNat:Nat):Int) < a2 then (((IntKind.i64.wrap (a1 + 1)).toNat - a0.toNat:Nat):Int) else a2) else (IntKind.i64.wrap ((0:Int) - (((IntKind.i64.wrap (a1 + 1)).toNat - a0.toNat:Nat):Int)))).toNat + a0.toNat)).take ((IntKind.i64.wrap (a1 + 1)).toNat - a0.toNat - (if (if (((IntKind.i64.wrap (a1 + 1)).toNat - a0.toNat:Nat):Int) < a2 then (((IntKind.i64.wrap (a1 + 1)).toNat - a0.toNat:Nat):Int) else a2) > (IntKind.i64.wrap ((0:Int) - (((IntKind.i64.wrap (a1 + 1)).toNat - a0.toNat:Nat):Int))) then (if (((IntKind.i64.wrap (a1 + 1)).toNat - a0.toNat:Nat):Int) < a2 then (((IntKind.i64.wrap (a1 + 1)).toNat - a0.toNat:Nat):Int) else a2) else (IntKind.i64.wrap ((0:Int) - (((IntKind.i64.wrap (a1 + 1)).toNat - a0.toNat:Nat):Int)))).toNat)) (min ((x6.drop ((if (if (((IntKind.i64.wrap (a1 + 1)).toNat - a0.toNat:Nat):Int) < a2 then (((IntKind.i64.wrap (a1 + 1)).toNat - a0.toNat:Nat):Int) else a2) > (IntKind.i64.wrap ((0:Int) - (((IntKind.i64.wrap (a1 + 1)).toNat - a0.toNat:Nat):Int))) then (if (((IntKind.i64.wrap (a1 + 1)).toNat - a0.toNat:Nat):Int) < a2 then (((IntKind.i64.wrap (a1 + 1)).toNat - a0.toNat:Nat):Int) else a2) else (IntKind.i64.wrap ((0:Int) - (((IntKind.i64.wrap (a1 + 1)).toNat - a0.toNat:Nat):Int)))).toNat + a0.toNat)).take ((IntKind.i64.wrap (a1 + 1)).toNat - a0.toNat - (if (if (((IntKind.i64.wrap (a1 + 1)).toNat - a0.toNat:Nat):Int) < a2 then (((IntKind.i64.wrap (a1 + 1)).toNat - a0.toNat:Nat):Int) else a2) > (IntKind.i64.wrap ((0:Int) - (((IntKind.i64.wrap (a1 + 1)).toNat - a0.toNat:Nat):Int))) then (if (((IntKind.i64.wrap (a1 + 1)).toNat - a0.toNat:Nat):Int) < a2 then (((IntKind.i64.wrap (a1 + 1)).toNat - a0.toNat:Nat):Int) else a2) else (IntKind.i64.wrap ((0:Int) - (((IntKind.i64.wrap (a1 + 1)).toNat - a0.toNat:Nat):Int)))).toNat)).length ((IntKind.i64.wrap (a1 + 1)).toNat - a0.toNat))) else req (0 ≤ (IntKind.i64.wrap ((0:Int) - (if (if (((IntKind.i64.wrap (a1 + 1)).toNat - a0.toNat:Nat):Int) < a2 then (((IntKind.i64.wrap (a1 + 1)).toNat - a0.toNat:Nat):Int) else a2) > (IntKind.i64.wrap ((0:Int) - (((IntKind.i64.wrap (a1 + 1)).toNat - a0.toNat:Nat):Int))) then (if (((IntKind.i64.wrap (a1 + 1)).toNat - a0.toNat:Nat):Int) < a2 then (((IntKind.i64.wrap (a1 + 1)).toNat - a0.toNat:Nat):Int) else a2) else (IntKind.i64.wrap ((0:Int) - (((IntKind.i64.wrap (a1 + 1)).toNat - a0.toNat:Nat):Int)))))) ∧ (IntKind.i64.wrap ((0:Int) - (if (if (((IntKind.i64.wrap (a1 + 1)).toNat - a0.toNat:Nat):Int) < a2 then (((IntKind.i64.wrap (a1 + 1)).toNat - a0.toNat:Nat):Int) else a2) > (IntKind.i64.wrap ((0:Int) - (((IntKind.i64.wrap (a1 + 1)).toNat - a0.toNat:Nat):Int))) then (if (((IntKind.i64.wrap (a1 + 1)).toNat - a0.toNat:Nat):Int) < a2 then (((IntKind.i64.wrap (a1 + 1)).toNat - a0.toNat:Nat):Int) else a2) else (IntKind.i64.wrap ((0:Int) - (((IntKind.i64.wrap (a1 + 1)).toNat - a0.toNat:Nat):Int)))))) ≤ (((IntKind.i64.wrap (a1 + 1)).toNat - a0.toNat:Nat):Int) ∧ (((IntKind.i64.wrap (a1 + 1)).toNat - a0.toNat:Nat):Int) ≤ (((IntKind.i64.wrap (a1 + 1)).toNat - a0.toNat:Nat):Int)) <| req (((IntKind.i64.wrap ((0:Int) - (if (if (((IntKind.i64.wrap (a1 + 1)).toNat - a0.toNat:Nat):Int) < a2 then (((IntKind.i64.wrap (a1 + 1)).toNat - a0.toNat:Nat):Int) else a2) > (IntKind.i64.wrap ((0:Int) - (((IntKind.i64.wrap (a1 + 1)).toNat - a0.toNat:Nat):Int))) then (if (((IntKind.i64.wrap (a1 + 1)).toNat - a0.toNat:Nat):Int) < a2 then (((IntKind.i64.wrap (a1 + 1)).toNat - a0.toNat:Nat):Int) else a2) else (IntKind.i64.wrap ((0:Int) - (((IntKind.i64.wrap (a1 + 1)).toNat - a0.toNat:Nat):Int)))))).toNat + a0.toNat) + ((IntKind.i64.wrap (a1 + 1)).toNat - a0.toNat - (IntKind.i64.wrap ((0:Int) - (if (if (((IntKind.i64.wrap (a1 + 1)).toNat - a0.toNat:Nat):Int) < a2 then (((IntKind.i64.wrap (a1 + 1)).toNat - a0.toNat:Nat):Int) else a2) > (IntKind.i64.wrap ((0:Int) - (((IntKind.i64.wrap (a1 + 1)).toNat - a0.toNat:Nat):Int))) then (if (((IntKind.i64.wrap (a1 + 1)).toNat - a0.toNat:Nat):Int) < a2 then (((IntKind.i64.wrap (a1 + 1)).toNat - a0.toNat:Nat):Int) else a2) else (IntKind.i64.wrap ((0:Int) - (((IntKind.i64.wrap (a1 + 1)).toNat - a0.toNat:Nat):Int)))))).toNat) ≤ x6.length) <| req (a0.toNat + ((IntKind.i64.wrap (a1 + 1)).toNat - a0.toNat) ≤ x6.length) <| req (0 ≤ (0:Int) ∧ (0:Int) ≤ (IntKind.i64.wrap ((0:Int) - (if (if (((IntKind.i64.wrap (a1 + 1)).toNat - a0.toNat:Nat):Int) < a2 then (((IntKind.i64.wrap (a1 + 1)).toNat - a0.toNat:Nat):Int) else a2) > (IntKind.i64.wrap ((0:Int) - (((IntKind.i64.wrap (a1 + 1)).toNat - a0.toNat:Nat):Int))) then (if (((IntKind.i64.wrap (a1 + 1)).toNat - a0.toNat:Nat):Int) < a2 then (((IntKind.i64.wrap (a1 + 1)).toNat - a0.toNat:Nat):Int) else a2) else (IntKind.i64.wrap ((0:Int) - (((IntKind.i64.wrap (a1 + 1)).toNat - a0.toNat:Nat):Int)))))) ∧ (IntKind.i64.wrap ((0:Int) - (if (if (((IntKind.i64.wrap (a1 + 1)).toNat - a0.toNat:Nat):Int) < a2 then (((IntKind.i64.wrap (a1 + 1)).toNat - a0.toNat:Nat):Int) else a2) > (IntKind.i64.wrap ((0:Int) - (((IntKind.i64.wrap (a1 + 1)).toNat - a0.toNat:Nat):Int))) then (if (((IntKind.i64.wrap (a1 + 1)).toNat - a0.toNat:Nat):Int) < a2 then (((IntKind.i64.wrap (a1 + 1)).toNat - a0.toNat:Nat):Int) else a2) else (IntKind.i64.wrap ((0:Int) - (((IntKind.i64.wrap (a1 + 1)).toNat - a0.toNat:Nat):Int)))))) ≤ (((IntKind.i64.wrap (a1 + 1)).toNat - a0.toNat:Nat):Int)) <| some (0 + a0.toNat,(IntKind.i64.wrap ((0:Int) - (if (if (((IntKind.i64.wrap (a1 + 1)).toNat - a0.toNat:Nat):Int) < a2 then (((IntKind.i64.wrap (a1 + 1)).toNat - a0.toNat:Nat):Int) else a2) > (IntKind.i64.wrap ((0:Int) - (((IntKind.i64.wrap (a1 + 1)).toNat - a0.toNat:Nat):Int))) then (if (((IntKind.i64.wrap (a1 + 1)).toNat - a0.toNat:Nat):Int) < a2 then (((IntKind.i64.wrap (a1 + 1)).toNat - a0.toNat:Nat):Int) else a2) else (IntKind.i64.wrap ((0:Int) - (((IntKind.i64.wrap (a1 + 1)).toNat - a0.toNat:Nat):Int)))))).toNat,cpy x6 ((IntKind.i64.wrap ((0:Int) - (if (if (((IntKind.i64.wrap (a1 + 1)).toNat - a0.toNat:Nat):Int) < a2 then (((IntKind.i64.wrap (a1 + 1)).toNat - a0.toNat:Nat):Int) else a2) > (IntKind.i64.wrap ((0:Int) - (((IntKind.i64.wrap (a1 + 1)).toNat - a0.toNat:Nat):Int))) then (if (((IntKind.i64.wrap (a1 + 1)).toNat - a0.toNat:Nat):Int) < a2 then (((IntKind.i64.wrap (a1 + 1)).toNat - a0.toNat:Nat):Int) else a2) else (IntKind.i64.wrap ((0:Int) - (((IntKind.i64.wrap (a1 + 1)).toNat - a0.toNat:Nat):Int)))))).toNat + a0.toNat) ((x6.drop a0.toNat).take ((IntKind.i64.wrap (a1 + 1)).toNat - a0.toNat)) (min ((x6.drop a0.toNat).take ((IntKind.i64.wrap (a1 + 1)).toNat - a0.toNat)).length ((IntKind.i64.wrap (a1 + 1)).toNat - a0.toNat - (IntKind.i64.wrap ((0:Int) - (if (if (((IntKind.i64.wrap (a1 + 1)).toNat - a0.toNat:Nat):Int) < a2 then (((IntKind.i64.wrap (a1 + 1)).toNat - a0.toNat:Nat):Int) else a2) > (IntKind.i64.wrap ((0:Int) - (((IntKind.i64.wrap (a1 + 1)).toNat - a0.toNat:Nat):Int))) then (if (((IntKind.i64.wrap (a1 + 1)).toNat - a0.toNat:Nat):Int) < a2 then (((IntKind.i64.wrap (a1 + 1)).toNat - a0.toNat:Nat):Int) else a2) else (IntKind.i64.wrap ((0:Int) - (((IntKind.i64.wrap (a1 + 1)).toNat - a0.toNat:Nat):Int)))))).toNat))):Option (Nat × Nat × (List (List (Int × K72c5.T))))).bind fun x10=>(loopO (grid_Scroll_274_loop1 x10 a4 a3) (0,x10.2.2)).bind fun x20=>req (x6.length = x20.length) (some x20)
noncomputable def screen_work_scroll_d5f (a0:Int) (a1:Int) (a7:Int) (a8:Int) (a9:Int) (a11:Int) (a31:List (List (Int × K72c5.T))):Option ((List (List (Int × K72c5.T)))):=req (a31.length = a31.length) <| (grid_Scroll_274 a0 a11 a1 (a7,a8,a9) a31).bind fun x1=>req (x1.length = x1.length) (some x1)
noncomputable def screen_work_feed_4f7 (a0:Int) (a2:Int) (a5:Int) (a6:Int) (a7:Int) (a8:Int) (a9:Int) (a29:List (List (Int × K72c5.T))) (a30:List (List (Int × K72c5.T))) (a31:List Int):Option ((List (List (Int × K72c5.T))) × Int):=(bif a2 == a9 then some true else some false:Option (Bool)).bind fun x1=>bif x1 then req (a31.length = a31.length) <| req (a30.length = a30.length) <| req (a29.length = a29.length) <| (screen_work_scroll_d5f a8 1 a5 a6 a7 a9 a29).bind fun x2=>req (x2.length = x2.length) (some (x2,a2)) else req (a29.length = a29.length) (some (a29,(if (IntKind.i64.wrap (a0 - 1)) < (IntKind.i64.wrap (a2 + 1)) then (IntKind.i64.wrap (a0 - 1)) else (IntKind.i64.wrap (a2 + 1)))))
noncomputable def line_fine (a0:List (Int × K72c5.T)) (a1:K92a5.T):Option (Bool):=(line_May a0).bind fun x1=>bif x1 then (pen_May a1).bind fun x2=>some x2 else some false
noncomputable def line_torn_ed0 (a0:Int) (a1:List (Int × K72c5.T)):Option ((List (Int × K72c5.T))):=(bif decide (a0 > 0) then bif decide (a0 < ((a1.length:Nat):Int)) then req (0 ≤ a0 ∧ a0 < ((a1.length:Nat):Int)) <| (a1[a0.toNat]?).bind fun x2=>bif x2.2.2.1 == 2 then some true else some false else some false else some false:Option (Bool)).bind fun x3=>bif x3 then req (0 ≤ (IntKind.i64.wrap (a0 - 1)) ∧ (IntKind.i64.wrap (a0 - 1)) < ((a1.length:Nat):Int)) <| (a1[(IntKind.i64.wrap (a0 - 1)).toNat]?).bind fun x4=>(line_blank x4.2.2.2).bind fun x5=>req (0 ≤ a0 ∧ a0 < ((a1.length:Nat):Int)) <| (a1[a0.toNat]?).bind fun x6=>(line_blank x6.2.2.2).bind fun x7=>req (0 ≤ (IntKind.i64.wrap (a0 - 1)) ∧ (IntKind.i64.wrap (a0 - 1)) < ((a1.length:Nat):Int)) <| (a1[(IntKind.i64.wrap (a0 - 1)).toNat]?).bind fun x8=>req (0 ≤ a0 ∧ a0 < ((a1.length:Nat):Int)) <| ((a1.set ((IntKind.i64.wrap (a0 - 1)).toNat) x5)[a0.toNat]?).bind fun x9=>some ((a1.set ((IntKind.i64.wrap (a0 - 1)).toNat) x5).set a0.toNat x7) else some a1
noncomputable def line_Insert_426 (a0:List (Int × K72c5.T)) (a1:Int) (a2:Int) (a3:K92a5.T):Option ((List (Int × K72c5.T))):=((line_fine a0 a3).bind fun x2=>bif !x2 then some true else some false:Option (Bool)).bind fun x3=>bif x3 then some ([]) else (slices_Clone_0e3 a0).bind fun x4=>(bif decide (a2 < 1) then some true else bif decide (a1 < 0) then some true else bif decide (a1 ≥ (a0.length:Int)) then some true else some false:Option (Bool)).bind fun x5=>bif x5 then req (x4.length = x4.length) (some x4) else req (x4.length = x4.length) <| (line_torn_ed0 a1 x4).bind fun x6=>req (x4.length = x6.length) <| (line_torn_ed0 (IntKind.i64.wrap ((a0.length:Int) - (if (IntKind.i64.wrap ((a0.length:Int) - a1)) < a2 then (IntKind.i64.wrap ((a0.length:Int) - a1)) else a2))) x6).bind fun x7=>req (0 ≤ (IntKind.i64.wrap (a1 + (if (IntKind.i64.wrap ((a0.length:Int) - a1)) < a2 then (IntKind.i64.wrap ((a0.length:Int) - a1)) else a2))) ∧ (IntKind.i64.wrap (a1 + (if (IntKind.i64.wrap ((a0.length:Int) - a1)) < a2 then (IntKind.i64.wrap ((a0.length:Int) - a1)) else a2))) ≤ ((x4.length:Nat):Int) ∧ ((x4.length:Nat):Int) ≤ ((x4.length:Nat):Int)) <| req (0 ≤ a1 ∧ a1 ≤ ((x4.length:Nat):Int) ∧ ((x4.length:Nat):Int) ≤ ((x4.length:Nat):Int)) <| req (((IntKind.i64.wrap (a1 + (if (IntKind.i64.wrap ((a0.length:Int) - a1)) < a2 then (IntKind.i64.wrap ((a0.length:Int) - a1)) else a2))).toNat) + (x4.length - (IntKind.i64.wrap (a1 + (if (IntKind.i64.wrap ((a0.length:Int) - a1)) < a2 then (IntKind.i64.wrap ((a0.length:Int) - a1)) else a2))).toNat) ≤ x7.length) <| req (a1.toNat + (x4.length - a1.toNat) ≤ x7.length) <| req (0 ≤ a1 ∧ a1 ≤ ((x4.length:Nat):Int) ∧ ((x4.length:Nat):Int) ≤ ((x4.length:Nat):Int)) <| (line_Blank (if (IntKind.i64.wrap ((a0.length:Int) - a1)) < a2 then (IntKind.i64.wrap ((a0.length:Int) - a1)) else a2) a3).bind fun x8=>req (a1.toNat + (x4.length - a1.toNat) ≤ (cpy x7 ((IntKind.i64.wrap (a1 + (if (IntKind.i64.wrap ((a0.length:Int) - a1)) < a2 then (IntKind.i64.wrap ((a0.length:Int) - a1)) else a2))).toNat) ((x7.drop a1.toNat).take (x4.length - a1.toNat)) (min ((x7.drop a1.toNat).take (x4.length - a1.toNat)).length (x4.length - (IntKind.i64.wrap (a1 + (if (IntKind.i64.wrap ((a0.length:Int) - a1)) < a2 then (IntKind.i64.wrap ((a0.length:Int) - a1)) else a2))).toNat))).length) <| req (x4.length = (cpy (cpy x7 ((IntKind.i64.wrap (a1 + (if (IntKind.i64.wrap ((a0.length:Int) - a1)) < a2 then (IntKind.i64.wrap ((a0.length:Int) - a1)) else a2))).toNat) ((x7.drop a1.toNat).take (x4.length - a1.toNat)) (min ((x7.drop a1.toNat).take (x4.length - a1.toNat)).length (x4.length - (IntKind.i64.wrap (a1 + (if (IntKind.i64.wrap ((a0.length:Int) - a1)) < a2 then (IntKind.i64.wrap ((a0.length:Int) - a1)) else a2))).toNat))) a1.toNat x8 (min x8.length (x4.length - a1.toNat))).length) (some (cpy (cpy x7 ((IntKind.i64.wrap (a1 + (if (IntKind.i64.wrap ((a0.length:Int) - a1)) < a2 then (IntKind.i64.wrap ((a0.length:Int) - a1)) else a2))).toNat) ((x7.drop a1.toNat).take (x4.length - a1.toNat)) (min ((x7.drop a1.toNat).take (x4.length - a1.toNat)).length (x4.length - (IntKind.i64.wrap (a1 + (if (IntKind.i64.wrap ((a0.length:Int) - a1)) < a2 then (IntKind.i64.wrap ((a0.length:Int) - a1)) else a2))).toNat))) a1.toNat x8 (min x8.length (x4.length - a1.toNat))))
noncomputable def line_Put_af7 (a0:List (Int × K72c5.T)) (a1:Int) (a2:Int) (a3:K92a5.T):Option ((List (Int × K72c5.T))):=((line_fine a0 a3).bind fun x2=>bif !x2 then some true else some false:Option (Bool)).bind fun x3=>bif x3 then some ([]) else (cols_Of a2).bind fun x4=>(slices_Clone_0e3 a0).bind fun x5=>(bif decide (x4 < 1) then some true else bif decide (a1 < 0) then some true else bif decide (a1 > (IntKind.i64.wrap ((a0.length:Int) - x4))) then some true else some false:Option (Bool)).bind fun x6=>bif x6 then req (x5.length = x5.length) (some x5) else req (x5.length = x5.length) <| (line_torn_ed0 a1 x5).bind fun x7=>req (x5.length = x7.length) <| (line_torn_ed0 (IntKind.i64.wrap (a1 + x4)) x7).bind fun x8=>req (0 ≤ a1 ∧ a1 < ((x5.length:Nat):Int)) <| (x8[a1.toNat]?).bind fun x9=>((bif x4 == 2 then some true else some false:Option (Bool)).bind fun x12=>bif x12 then req (0 ≤ (IntKind.i64.wrap (a1 + 1)) ∧ (IntKind.i64.wrap (a1 + 1)) < ((x5.length:Nat):Int)) <| ((x8.set a1.toNat (a2,(0,0),IntKind.i64.wrap (x4 - 1),a3))[(IntKind.i64.wrap (a1 + 1)).toNat]?).bind fun x13=>some ((x8.set a1.toNat (a2,(0,0),IntKind.i64.wrap (x4 - 1),a3)).set ((IntKind.i64.wrap (a1 + 1)).toNat) (0,(0,0),2,a3)) else some (x8.set a1.toNat (a2,(0,0),IntKind.i64.wrap (x4 - 1),a3)):Option ((List (Int × K72c5.T)))).bind fun x14=>req (x5.length = x14.length) (some x14)
noncomputable def screen_work_print_ec2 (a0:Int) (a1:Int) (a2:Int) (a3:Int) (a4:Int) (a5:Bool) (a6:Int) (a7:Int) (a8:Int) (a9:Int) (a10:Int) (a11:Int) (a30:List (List (Int × K72c5.T))) (a31:List (List (Int × K72c5.T))) (a32:List Int):Option ((List (List (Int × K72c5.T))) × Int × Int × Bool):=(cols_Of a0).bind fun x1=>req (0 ≤ a3 ∧ a3 < ((a30.length:Nat):Int)) <| (a30[a3.toNat]?).bind fun x2=>(bif decide (x1 < 0) then some true else bif decide (x1 > a2) then some true else some false:Option (Bool)).bind fun x3=>bif x3 then req (a30.length = a30.length) (some (a30,a3,a4,a5)) else (bif x1 == 0 then some true else some false:Option (Bool)).bind fun x4=>bif x4 then ((bif !a5 then some true else some false:Option (Bool)).bind fun x6=>bif x6 then some (IntKind.i64.wrap (a4 - 1)) else some a4:Option (Int)).bind fun x7=>(line_Mark_5ae x2 x7 a0).bind fun x8=>req (0 ≤ a3 ∧ a3 < ((a30.length:Nat):Int)) <| (a30[a3.toNat]?).bind fun x9=>req (a30.length = (a30.set a3.toNat x8).length) (some (a30.set a3.toNat x8,a3,a4,a5)) else ((bif a5 then bif (ibits .and .i64 a11 1) != 0 then some true else some false else some false:Option (Bool)).bind fun x12=>bif x12 then req (a32.length = a32.length) <| req (a31.length = a31.length) <| req (a30.length = a30.length) <| (screen_work_feed_4f7 a1 a3 a6 a7 a8 a9 a10 a30 a31 a32).bind fun x13=>req (x13.1.length = x13.1.length) (some (x13.1,x13.2,0)) else req (a30.length = a30.length) (some (a30,a3,a4)):Option ((List (List (Int × K72c5.T))) × Int × Int)).bind fun x14=>((bif decide (x14.2.2 > (IntKind.i64.wrap (a2 - x1))) then some true else some false:Option (Bool)).bind fun x18=>bif x18 then (bif (ibits .and .i64 a11 1) != 0 then some true else some false:Option (Bool)).bind fun x19=>bif x19 then req (a32.length = a32.length) <| req (a31.length = a31.length) <| req (x14.1.length = x14.1.length) <| (screen_work_feed_4f7 a1 x14.2.1 a6 a7 a8 a9 a10 x14.1 a31 a32).bind fun x20=>req (x20.1.length = x20.1.length) (some (x20.1,x20.2,0)) else req (x14.1.length = x14.1.length) (some (x14.1,x14.2.1,IntKind.i64.wrap (a2 - x1))) else req (x14.1.length = x14.1.length) (some (x14.1,x14.2.1,x14.2.2)):Option ((List (List (Int × K72c5.T))) × Int × Int)).bind fun x21=>req (0 ≤ x21.2.1 ∧ x21.2.1 < ((x21.1.length:Nat):Int)) <| (x21.1[x21.2.1.toNat]?).bind fun x22=>((bif (ibits .and .i64 a11 4) != 0 then some true else some false:Option (Bool)).bind fun x25=>bif x25 then (line_Insert_426 x22 x21.2.2 x1 (a6,a7,a8)).bind fun x26=>some x26 else some x22:Option ((List (Int × K72c5.T)))).bind fun x27=>(line_Put_af7 x27 x21.2.2 a0 (a6,a7,a8)).bind fun x28=>req (0 ≤ x21.2.1 ∧ x21.2.1 < ((x21.1.length:Nat):Int)) <| (x21.1[x21.2.1.toNat]?).bind fun x29=>(bif decide ((IntKind.i64.wrap (x21.2.2 + x1)) ≥ a2) then some true else some false:Option (Bool)).bind fun x30=>bif x30 then req (x21.1.length = (x21.1.set x21.2.1.toNat x28).length) (some (x21.1.set x21.2.1.toNat x28,x21.2.1,IntKind.i64.wrap (a2 - 1),((ibits .and .i64 a11 1) != 0))) else req (x21.1.length = (x21.1.set x21.2.1.toNat x28).length) (some (x21.1.set x21.2.1.toNat x28,x21.2.1,IntKind.i64.wrap (x21.2.2 + x1),false))
noncomputable def pen_fine (a0:K92a5.T):Option (K92a5.T):=((pen_May a0).bind fun x2=>bif !x2 then some true else some false:Option (Bool)).bind fun x3=>bif x3 then some (0,0,0) else some a0
noncomputable def pen_plane (a0:Int):Option (Int × Bool):=(bif decide (a0 ≥ 30) then bif decide (a0 < 50) then some true else some false else some false:Option (Bool)).bind fun x1=>bif x1 then some (IntKind.i64.wrap ((IntKind.i64.wrap (Int.tdiv a0 10)) * 10),true) else ((bif decide (a0 ≥ 90) then bif decide (a0 < 98) then some true else some false else some false:Option (Bool)).bind fun x3=>bif x3 then some x3 else bif decide (a0 ≥ 100) then bif decide (a0 < 108) then some true else some false else some false:Option (Bool)).bind fun x4=>bif x4 then some (IntKind.i64.wrap ((IntKind.i64.wrap ((IntKind.i64.wrap (Int.tdiv a0 10)) * 10)) - 60),true) else some (0,false)
noncomputable def pen_bitOf (a0:Int):Option (Int):=((bif decide (a0 < 0) then some true else bif decide (a0 > 8) then some true else bif a0 == 5 then some true else some false:Option (Bool)).bind fun x3=>bif x3 then some (.inr 0) else (bif decide (a0 > 4) then some true else some false:Option (Bool)).bind fun x4=>bif x4 then some (.inl (IntKind.i64.wrap (a0 - 1))) else some (.inl a0):Option ((Int) ⊕ (Int))).bind fun o=>match o with | .inr r=>some r | .inl x5=>req (0 ≤ x5) <| some (IntKind.i64.wrap ((1:Int) * 2 ^ (min x5.toNat 64)))
noncomputable def pen_colour_1_loop1 (a0:List Int) (x4:Int):Option (((Unit) ⊕ (Unit)) ⊕ (Int)):=(bif decide (x4 < (a0.length:Int)) then some true else some false:Option (Bool)).bind fun x5=>bif x5 then (getI a0 x4).bind fun x6=>(bif decide (x6 < 0) then some true else bif decide (x6 > 255) then some true else some false:Option (Bool)).bind fun x7=>bif x7 then some (.inl (.inl ())) else some (.inr (IntKind.i64.wrap (x4 + 1))) else some (.inl (.inr ()))
noncomputable def pen_colour_1 (a0:List Int):Option (Bool):=(loopO (pen_colour_1_loop1 a0) 0).bind fun o=>match o with | .inl _=>some false | .inr _=>some true
noncomputable def pen_colour (a0:List Int):Option (Int × Int):=(bif decide ((a0.length:Int) ≥ 2) then (getI a0 0).bind fun x4=>bif x4 == 5 then (getI a0 1).bind fun x5=>(pen_colour_1 [x5]).bind fun x6=>bif x6 then some true else some false else some false else some false:Option (Bool)).bind fun x7=>bif x7 then (getI a0 1).bind fun x8=>some (IntKind.i64.wrap ((1:Int) + x8),2) else (bif decide ((a0.length:Int) ≥ 4) then (getI a0 0).bind fun x11=>bif x11 == 2 then req (0 ≤ (1:Int) ∧ (1:Int) ≤ (4:Int) ∧ (4:Int) ≤ ((a0.length:Nat):Int)) <| (pen_colour_1 (sub a0 1 4)).bind fun x12=>bif x12 then some true else some false else some false else some false:Option (Bool)).bind fun x13=>bif x13 then (getI a0 1).bind fun x14=>(getI a0 2).bind fun x15=>(getI a0 3).bind fun x16=>some (IntKind.i64.wrap ((IntKind.i64.wrap ((IntKind.i64.wrap ((17:Int) + (IntKind.i64.wrap ((36:Int) * (IntKind.i64.wrap (Int.tdiv (IntKind.i64.wrap ((6:Int) * x14)) 256)))))) + (IntKind.i64.wrap ((6:Int) * (IntKind.i64.wrap (Int.tdiv (IntKind.i64.wrap ((6:Int) * x15)) 256)))))) + (IntKind.i64.wrap (Int.tdiv (IntKind.i64.wrap ((6:Int) * x16)) 256))),4) else some (0,0)
noncomputable def pen_Apply_1_345 (a0:Int) (a1:Int) (a3:Int) (a4:Int):Option (Int × Int):=(bif a0 == 30 then some true else some false:Option (Bool)).bind fun x1=>bif x1 then some (a1,a4) else some (a3,a1)
noncomputable def pen_Apply_loop1 (a1:List Int) (x41:Int × Int × Int × Int):Option (((Int × Int × Int × Int × Int × Int) ⊕ (Int × Int × Int)) ⊕ (Int × Int × Int × Int)):=(bif decide (x41.1 < (a1.length:Int)) then some true else some false:Option (Bool)).bind fun x42=>bif x42 then ((getI a1 x41.1).bind fun x61=>(pen_plane x61).bind fun x62=>(bif x61 == 0 then some true else some false:Option (Bool)).bind fun x63=>bif x63 then some (.inl (x41.1,0,0,0)) else (bif decide (x61 ≥ 1) then bif decide (x61 ≤ 9) then some true else some false else some false:Option (Bool)).bind fun x64=>bif x64 then (pen_bitOf (IntKind.i64.wrap (x61 - 1))).bind fun x65=>some (.inl (x41.1,ibits .or .i64 x41.2.1 x65,x41.2.2.1,x41.2.2.2)) else (bif x61 == 22 then some true else some false:Option (Bool)).bind fun x66=>bif x66 then some (.inl (x41.1,ibits .andNot .i64 x41.2.1 3,x41.2.2.1,x41.2.2.2)) else (bif decide (x61 ≥ 23) then bif decide (x61 ≤ 29) then some true else some false else some false:Option (Bool)).bind fun x67=>bif x67 then (pen_bitOf (IntKind.i64.wrap (x61 - 21))).bind fun x68=>some (.inl (x41.1,ibits .andNot .i64 x41.2.1 x68,x41.2.2.1,x41.2.2.2)) else (bif x62.2 then bif x61 == (IntKind.i64.wrap (x62.1 + 8)) then some true else some false else some false:Option (Bool)).bind fun x69=>bif x69 then req (0 ≤ (IntKind.i64.wrap (x41.1 + 1)) ∧ (IntKind.i64.wrap (x41.1 + 1)) ≤ ((a1.length:Nat):Int) ∧ ((a1.length:Nat):Int) ≤ ((a1.length:Nat):Int)) <| (pen_colour (sub a1 ((IntKind.i64.wrap (x41.1 + 1)).toNat) a1.length)).bind fun x70=>(bif x70.2 == 0 then some true else some false:Option (Bool)).bind fun x71=>bif x71 then some (.inr (.inl (.inl (x41.2.1,x41.2.2.1,x41.2.2.2,x41.2.1,x41.2.2.1,x41.2.2.2)))) else (pen_Apply_1_345 x62.1 x70.1 x41.2.2.1 x41.2.2.2).bind fun x72=>some (.inl (IntKind.i64.wrap (x41.1 + x70.2),x41.2.1,x72.1,x72.2)) else (bif x62.2 then bif x61 == (IntKind.i64.wrap (x62.1 + 9)) then some true else some false else some false:Option (Bool)).bind fun x73=>bif x73 then (pen_Apply_1_345 x62.1 0 x41.2.2.1 x41.2.2.2).bind fun x74=>some (.inl (x41.1,x41.2.1,x74.1,x74.2)) else (bif x62.2 then bif decide (x61 < 90) then some true else some false else some false:Option (Bool)).bind fun x75=>bif x75 then (pen_Apply_1_345 x62.1 (IntKind.i64.wrap ((IntKind.i64.wrap (x61 - x62.1)) + 1)) x41.2.2.1 x41.2.2.2).bind fun x76=>some (.inl (x41.1,x41.2.1,x76.1,x76.2)) else (bif x62.2 then some true else some false:Option (Bool)).bind fun x77=>bif x77 then (pen_Apply_1_345 x62.1 (IntKind.i64.wrap ((IntKind.i64.wrap ((IntKind.i64.wrap (x61 - x62.1)) - 60)) + 9)) x41.2.2.1 x41.2.2.2).bind fun x78=>some (.inl (x41.1,x41.2.1,x78.1,x78.2)) else some (.inl (x41.1,x41.2.1,x41.2.2.1,x41.2.2.2)):Option ((Int × Int × Int × Int) ⊕ (((Int × Int × Int × Int × Int × Int) ⊕ (Int × Int × Int)) ⊕ (Int × Int × Int × Int)))).bind fun o=>match o with | .inr r=>some r | .inl x79=>some (.inr (IntKind.i64.wrap (x79.1 + 1),x79.2.1,x79.2.2.1,x79.2.2.2)) else some (.inl (.inr (x41.2.1,x41.2.2.1,x41.2.2.2)))
noncomputable def pen_Apply (a0:K92a5.T) (a1:List Int):Option (K92a5.T):=(pen_fine a0).bind fun x1=>(bif (a1.length:Int) == 0 then some true else some false:Option (Bool)).bind fun x2=>bif x2 then some (0,0,0) else (loopO (pen_Apply_loop1 a1) (0,x1.1,x1.2.1,x1.2.2)).bind fun o=>match o with | .inl x80=>some x80.2.2.2 | .inr x81=>some x81
noncomputable def tabs_Clear (a0:Int × Kf613.T) (a1:Int):Option ((Int × Kf613.T)):=(((tabs_side a1).bind fun x5=>bif x5 then some true else some false:Option (Bool)).bind fun x6=>bif x6 then bif (IntKind.i64.wrap (Int.tdiv a1 64)) == 0 then req (0 ≤ (Int.tmod a1 64)) <| bif (IntKind.i64.wrap (Int.tdiv a1 64)) == 0 then some (ibits .andNot .u64 a0.1 (IntKind.u64.wrap ((1:Int) * 2 ^ (min (Int.tmod a1 64).toNat 64))),a0.2.1,a0.2.2.1,a0.2.2.2) else bif (IntKind.i64.wrap (Int.tdiv a1 64)) == 1 then some (a0.1,ibits .andNot .u64 a0.1 (IntKind.u64.wrap ((1:Int) * 2 ^ (min (Int.tmod a1 64).toNat 64))),a0.2.2.1,a0.2.2.2) else bif (IntKind.i64.wrap (Int.tdiv a1 64)) == 2 then some (a0.1,a0.2.1,ibits .andNot .u64 a0.1 (IntKind.u64.wrap ((1:Int) * 2 ^ (min (Int.tmod a1 64).toNat 64))),a0.2.2.2) else bif (IntKind.i64.wrap (Int.tdiv a1 64)) == 3 then some (a0.1,a0.2.1,a0.2.2.1,ibits .andNot .u64 a0.1 (IntKind.u64.wrap ((1:Int) * 2 ^ (min (Int.tmod a1 64).toNat 64)))) else none else bif (IntKind.i64.wrap (Int.tdiv a1 64)) == 1 then req (0 ≤ (Int.tmod a1 64)) <| bif (IntKind.i64.wrap (Int.tdiv a1 64)) == 0 then some (ibits .andNot .u64 a0.2.1 (IntKind.u64.wrap ((1:Int) * 2 ^ (min (Int.tmod a1 64).toNat 64))),a0.2.1,a0.2.2.1,a0.2.2.2) else bif (IntKind.i64.wrap (Int.tdiv a1 64)) == 1 then some (a0.1,ibits .andNot .u64 a0.2.1 (IntKind.u64.wrap ((1:Int) * 2 ^ (min (Int.tmod a1 64).toNat 64))),a0.2.2.1,a0.2.2.2) else bif (IntKind.i64.wrap (Int.tdiv a1 64)) == 2 then some (a0.1,a0.2.1,ibits .andNot .u64 a0.2.1 (IntKind.u64.wrap ((1:Int) * 2 ^ (min (Int.tmod a1 64).toNat 64))),a0.2.2.2) else bif (IntKind.i64.wrap (Int.tdiv a1 64)) == 3 then some (a0.1,a0.2.1,a0.2.2.1,ibits .andNot .u64 a0.2.1 (IntKind.u64.wrap ((1:Int) * 2 ^ (min (Int.tmod a1 64).toNat 64)))) else none else bif (IntKind.i64.wrap (Int.tdiv a1 64)) == 2 then req (0 ≤ (Int.tmod a1 64)) <| bif (IntKind.i64.wrap (Int.tdiv a1 64)) == 0 then some (ibits .andNot .u64 a0.2.2.1 (IntKind.u64.wrap ((1:Int) * 2 ^ (min (Int.tmod a1 64).toNat 64))),a0.2.1,a0.2.2.1,a0.2.2.2) else bif (IntKind.i64.wrap (Int.tdiv a1 64)) == 1 then some (a0.1,ibits .andNot .u64 a0.2.2.1 (IntKind.u64.wrap ((1:Int) * 2 ^ (min (Int.tmod a1 64).toNat 64))),a0.2.2.1,a0.2.2.2) else bif (IntKind.i64.wrap (Int.tdiv a1 64)) == 2 then some (a0.1,a0.2.1,ibits .andNot .u64 a0.2.2.1 (IntKind.u64.wrap ((1:Int) * 2 ^ (min (Int.tmod a1 64).toNat 64))),a0.2.2.2) else bif (IntKind.i64.wrap (Int.tdiv a1 64)) == 3 then some (a0.1,a0.2.1,a0.2.2.1,ibits .andNot .u64 a0.2.2.1 (IntKind.u64.wrap ((1:Int) * 2 ^ (min (Int.tmod a1 64).toNat 64)))) else none else bif (IntKind.i64.wrap (Int.tdiv a1 64)) == 3 then req (0 ≤ (Int.tmod a1 64)) <| bif (IntKind.i64.wrap (Int.tdiv a1 64)) == 0 then some (ibits .andNot .u64 a0.2.2.2 (IntKind.u64.wrap ((1:Int) * 2 ^ (min (Int.tmod a1 64).toNat 64))),a0.2.1,a0.2.2.1,a0.2.2.2) else bif (IntKind.i64.wrap (Int.tdiv a1 64)) == 1 then some (a0.1,ibits .andNot .u64 a0.2.2.2 (IntKind.u64.wrap ((1:Int) * 2 ^ (min (Int.tmod a1 64).toNat 64))),a0.2.2.1,a0.2.2.2) else bif (IntKind.i64.wrap (Int.tdiv a1 64)) == 2 then some (a0.1,a0.2.1,ibits .andNot .u64 a0.2.2.2 (IntKind.u64.wrap ((1:Int) * 2 ^ (min (Int.tmod a1 64).toNat 64))),a0.2.2.2) else bif (IntKind.i64.wrap (Int.tdiv a1 64)) == 3 then some (a0.1,a0.2.1,a0.2.2.1,ibits .andNot .u64 a0.2.2.2 (IntKind.u64.wrap ((1:Int) * 2 ^ (min (Int.tmod a1 64).toNat 64)))) else none else none else some (a0.1,a0.2.1,a0.2.2.1,a0.2.2.2):Option (Int × Int × Int × Int)).bind fun x7=>some x7
noncomputable def screen_work_page_4f7 (a10:Int):Option (Int):=(bif (ibits .and .i64 a10 128) != 0 then some true else some false:Option (Bool)).bind fun x1=>bif x1 then some 1 else some 0
noncomputable def screen_work_save_4f7 (a2:Int) (a3:Int) (a4:Bool) (a5:Int) (a6:Int) (a7:Int) (a10:Int) (a11:Int) (a12:Int) (a13:Int) (a14:Int) (a15:Int) (a16:Bool) (a17:Bool) (a18:Int) (a19:Int) (a20:Int) (a21:Int) (a22:Int) (a23:Bool) (a24:Bool) (a29:List (List (Int × K72c5.T))) (a30:List (List (Int × K72c5.T))) (a31:List Int):Option (Int × Int × Int × Int × Int × Bool × Bool × Int × Int × Int × Int × Int × Bool × Bool):=req (a31.length = a31.length) <| req (a30.length = a30.length) <| req (a29.length = a29.length) <| (screen_work_page_4f7 a10).bind fun x1=>bif x1 == 0 then some (a2,a3,a5,a6,a7,((ibits .and .i64 a10 2) != 0),a4,a18,a19,a20,a21,a22,a23,a24) else bif x1 == 1 then some (a11,a12,a13,a14,a15,a16,a17,a2,a3,a5,a6,a7,((ibits .and .i64 a10 2) != 0),a4) else none
noncomputable def grid_Blank_d8f_loop1 (a0:Int) (a1:Int) (a2:K92a5.T) (x11:Int × (List (List (Int × K72c5.T)))):Option ((((List (List (Int × K72c5.T))))) ⊕ (Int × (List (List (Int × K72c5.T))))):=(bif decide (x11.1 < ((a0.toNat:Nat):Int)) then some true else some false:Option (Bool)).bind fun x12=>bif x12 then (line_Blank_92f a1 a2).bind fun x13=>req (0 ≤ x11.1 ∧ x11.1 < ((a0.toNat:Nat):Int)) <| (x11.2[x11.1.toNat]?).bind fun x14=>some (.inr (IntKind.i64.wrap (x11.1 + 1),x11.2.set x11.1.toNat x13)) else some (.inl x11.2)
noncomputable def grid_Blank_d8f (a0:Int) (a1:Int) (a2:K92a5.T):Option ((List (List (Int × K72c5.T)))):=((grid_side a0).bind fun x4=>bif !x4 then some true else (grid_side a1).bind fun x5=>bif !x5 then some true else (pen_May a2).bind fun x6=>bif !x6 then some true else some false:Option (Bool)).bind fun x7=>bif x7 then some ([]) else req (0 ≤ a0 ∧ a0 ≤ a0 ∧ a0.toNat * 24 ≤ maxBy) <| (loopO (grid_Blank_d8f_loop1 a0 a1 a2) (0,(List.replicate a0.toNat []:List (List (Int × K72c5.T))))).bind fun x15=>req (a0.toNat = x15.length) (some x15)
noncomputable def screen_work_goTo_d5f (a0:Int) (a1:Int) (a2:Int) (a3:Int) (a10:Int) (a11:Int) (a12:Int):Option (Int × Int):=((bif (ibits .and .i64 a12 2) != 0 then some true else some false:Option (Bool)).bind fun x4=>bif x4 then (screen_between (IntKind.i64.wrap (a10 + a0)) a10 a11).bind fun x5=>some x5 else (screen_between a0 0 (IntKind.i64.wrap (a2 - 1))).bind fun x6=>some x6:Option (Int)).bind fun x7=>(screen_between a1 0 (IntKind.i64.wrap (a3 - 1))).bind fun x8=>some (x7,x8)
noncomputable def screen_work_restore_4f7 (a0:Int) (a1:Int) (a10:Int) (a11:Int) (a12:Int) (a13:Int) (a14:Int) (a15:Int) (a16:Bool) (a17:Bool) (a18:Int) (a19:Int) (a20:Int) (a21:Int) (a22:Int) (a23:Bool) (a24:Bool) (a29:List (List (Int × K72c5.T))) (a30:List (List (Int × K72c5.T))) (a31:List Int):Option (Int × Int × Bool × Int × Int × Int × Int):=(req (a31.length = a31.length) <| req (a30.length = a30.length) <| req (a29.length = a29.length) <| (screen_work_page_4f7 a10).bind fun x2=>bif x2 == 0 then some (a11,a12,a13,a14,a15,a16,a17) else bif x2 == 1 then some (a18,a19,a20,a21,a22,a23,a24) else none:Option (Int × Int × Int × Int × Int × Bool × Bool)).bind fun x3=>(screen_between x3.1 0 (IntKind.i64.wrap (a0 - 1))).bind fun x4=>(screen_between x3.2.1 0 (IntKind.i64.wrap (a1 - 1))).bind fun x5=>((bif x3.2.2.2.2.2.1 then some true else some false:Option (Bool)).bind fun x7=>bif x7 then some (ibits .or .i64 (ibits .andNot .i64 a10 2) 2) else some (ibits .andNot .i64 a10 2):Option (Int)).bind fun x8=>bif x3.2.2.2.2.2.2 then some (x4,x5,(x5 == (IntKind.i64.wrap (a1 - 1))),x3.2.2.1,x3.2.2.2.1,x3.2.2.2.2.1,x8) else some (x4,x5,false,x3.2.2.1,x3.2.2.2.1,x3.2.2.2.2.1,x8)
noncomputable def screen_work_mode_4a3 (a0:Int) (a1:Bool) (a2:Int) (a3:Int) (a4:Int) (a5:Int) (a6:Bool) (a7:Int) (a8:Int) (a9:Int) (a10:Int) (a11:Int) (a12:Int) (a13:Int) (a14:Int) (a15:Int) (a16:Int) (a17:Int) (a18:Bool) (a19:Bool) (a20:Int) (a21:Int) (a22:Int) (a23:Int) (a24:Int) (a25:Bool) (a26:Bool) (a31:List (List (Int × K72c5.T))) (a32:List (List (Int × K72c5.T))) (a33:List Int):Option ((List (List (Int × K72c5.T))) × (List (List (Int × K72c5.T))) × Int × Int × Bool × Int × Int × Int × Int × Int × Int × Int × Int × Int × Bool × Bool × Int × Int × Int × Int × Int × Bool × Bool):=(bif decide (a0 < 1) then some true else bif decide (a0 > 255) then some true else bif (ibits .and .i64 a0 (IntKind.i64.wrap (a0 - 1))) != 0 then some true else some false:Option (Bool)).bind fun x1=>bif x1 then req (a32.length = a32.length) (req (a31.length = a31.length) (some (a31,a32,a4,a5,a6,a7,a8,a9,a12,a13,a14,a15,a16,a17,a18,a19,a20,a21,a22,a23,a24,a25,a26))) else ((bif a0 == 128 then bif !(((ibits .and .i64 a12 a0) != 0) == a1) then some true else some false else some false:Option (Bool)).bind fun x6=>bif x6 then (bif a1 then some true else some false:Option (Bool)).bind fun x7=>bif x7 then req (a33.length = a33.length) <| req (a32.length = a32.length) <| req (a31.length = a31.length) <| (screen_work_save_4f7 a4 a5 a6 a7 a8 a9 a12 a13 a14 a15 a16 a17 a18 a19 a20 a21 a22 a23 a24 a25 a26 a31 a32 a33).bind fun x8=>(grid_Blank_d8f a2 a3 (0,0,0)).bind fun x9=>req (a31.length = a31.length) (req (x9.length = x9.length) (some (x9,a31,x8.1,x8.2.1,x8.2.2.1,x8.2.2.2.1,x8.2.2.2.2.1,x8.2.2.2.2.2.1,x8.2.2.2.2.2.2.1,x8.2.2.2.2.2.2.2.1,x8.2.2.2.2.2.2.2.2.1,x8.2.2.2.2.2.2.2.2.2.1,x8.2.2.2.2.2.2.2.2.2.2.1,x8.2.2.2.2.2.2.2.2.2.2.2.1,x8.2.2.2.2.2.2.2.2.2.2.2.2.1,x8.2.2.2.2.2.2.2.2.2.2.2.2.2))) else req (a32.length = a32.length) (some (a32,[],a13,a14,a15,a16,a17,a18,a19,a20,a21,a22,a23,a24,a25,a26)) else req (a32.length = a32.length) (req (a31.length = a31.length) (some (a31,a32,a13,a14,a15,a16,a17,a18,a19,a20,a21,a22,a23,a24,a25,a26))):Option ((List (List (Int × K72c5.T))) × (List (List (Int × K72c5.T))) × Int × Int × Int × Int × Int × Bool × Bool × Int × Int × Int × Int × Int × Bool × Bool)).bind fun x10=>((bif a1 then some true else some false:Option (Bool)).bind fun x12=>bif x12 then some (ibits .or .i64 (ibits .andNot .i64 a12 a0) a0) else some (ibits .andNot .i64 a12 a0):Option (Int)).bind fun x13=>(bif a0 == 2 then some true else some false:Option (Bool)).bind fun x14=>bif x14 then req (a33.length = a33.length) <| req (x10.2.1.length = x10.2.1.length) <| req (x10.1.length = x10.1.length) <| (screen_work_goTo_d5f 0 0 a2 a3 a10 a11 x13).bind fun x15=>req (x10.2.1.length = x10.2.1.length) (req (x10.1.length = x10.1.length) (some (x10.1,x10.2.1,x15.1,x15.2,false,a7,a8,a9,x13,x10.2.2.1,x10.2.2.2.1,x10.2.2.2.2.1,x10.2.2.2.2.2.1,x10.2.2.2.2.2.2.1,x10.2.2.2.2.2.2.2.1,x10.2.2.2.2.2.2.2.2.1,x10.2.2.2.2.2.2.2.2.2.1,x10.2.2.2.2.2.2.2.2.2.2.1,x10.2.2.2.2.2.2.2.2.2.2.2.1,x10.2.2.2.2.2.2.2.2.2.2.2.2.1,x10.2.2.2.2.2.2.2.2.2.2.2.2.2.1,x10.2.2.2.2.2.2.2.2.2.2.2.2.2.2.1,x10.2.2.2.2.2.2.2.2.2.2.2.2.2.2.2))) else (bif a0 == 128 then some true else some false:Option (Bool)).bind fun x16=>bif x16 then (bif (ibits .and .i64 a12 a0) != 0 then bif !a1 then some true else some false else some false:Option (Bool)).bind fun x17=>bif x17 then req (a33.length = a33.length) <| req (x10.2.1.length = x10.2.1.length) <| req (x10.1.length = x10.1.length) <| (screen_work_restore_4f7 a2 a3 x13 x10.2.2.1 x10.2.2.2.1 x10.2.2.2.2.1 x10.2.2.2.2.2.1 x10.2.2.2.2.2.2.1 x10.2.2.2.2.2.2.2.1 x10.2.2.2.2.2.2.2.2.1 x10.2.2.2.2.2.2.2.2.2.1 x10.2.2.2.2.2.2.2.2.2.2.1 x10.2.2.2.2.2.2.2.2.2.2.2.1 x10.2.2.2.2.2.2.2.2.2.2.2.2.1 x10.2.2.2.2.2.2.2.2.2.2.2.2.2.1 x10.2.2.2.2.2.2.2.2.2.2.2.2.2.2.1 x10.2.2.2.2.2.2.2.2.2.2.2.2.2.2.2 x10.1 x10.2.1 a33).bind fun x18=>req (x10.2.1.length = x10.2.1.length) (req (x10.1.length = x10.1.length) (some (x10.1,x10.2.1,x18.1,x18.2.1,x18.2.2.1,x18.2.2.2.1,x18.2.2.2.2.1,x18.2.2.2.2.2.1,x18.2.2.2.2.2.2,x10.2.2.1,x10.2.2.2.1,x10.2.2.2.2.1,x10.2.2.2.2.2.1,x10.2.2.2.2.2.2.1,x10.2.2.2.2.2.2.2.1,x10.2.2.2.2.2.2.2.2.1,x10.2.2.2.2.2.2.2.2.2.1,x10.2.2.2.2.2.2.2.2.2.2.1,x10.2.2.2.2.2.2.2.2.2.2.2.1,x10.2.2.2.2.2.2.2.2.2.2.2.2.1,x10.2.2.2.2.2.2.2.2.2.2.2.2.2.1,x10.2.2.2.2.2.2.2.2.2.2.2.2.2.2.1,x10.2.2.2.2.2.2.2.2.2.2.2.2.2.2.2))) else req (x10.2.1.length = x10.2.1.length) (req (x10.1.length = x10.1.length) (some (x10.1,x10.2.1,a4,a5,false,a7,a8,a9,x13,x10.2.2.1,x10.2.2.2.1,x10.2.2.2.2.1,x10.2.2.2.2.2.1,x10.2.2.2.2.2.2.1,x10.2.2.2.2.2.2.2.1,x10.2.2.2.2.2.2.2.2.1,x10.2.2.2.2.2.2.2.2.2.1,x10.2.2.2.2.2.2.2.2.2.2.1,x10.2.2.2.2.2.2.2.2.2.2.2.1,x10.2.2.2.2.2.2.2.2.2.2.2.2.1,x10.2.2.2.2.2.2.2.2.2.2.2.2.2.1,x10.2.2.2.2.2.2.2.2.2.2.2.2.2.2.1,x10.2.2.2.2.2.2.2.2.2.2.2.2.2.2.2))) else req (x10.2.1.length = x10.2.1.length) (req (x10.1.length = x10.1.length) (some (x10.1,x10.2.1,a4,a5,a6,a7,a8,a9,x13,x10.2.2.1,x10.2.2.2.1,x10.2.2.2.2.1,x10.2.2.2.2.2.1,x10.2.2.2.2.2.2.1,x10.2.2.2.2.2.2.2.1,x10.2.2.2.2.2.2.2.2.1,x10.2.2.2.2.2.2.2.2.2.1,x10.2.2.2.2.2.2.2.2.2.2.1,x10.2.2.2.2.2.2.2.2.2.2.2.1,x10.2.2.2.2.2.2.2.2.2.2.2.2.1,x10.2.2.2.2.2.2.2.2.2.2.2.2.2.1,x10.2.2.2.2.2.2.2.2.2.2.2.2.2.2.1,x10.2.2.2.2.2.2.2.2.2.2.2.2.2.2.2)))
noncomputable def screen_New_aae (a0:Int) (a1:Int):Option (Int × Int × Int × Int × Int × Int × Int × Int × Int × (List (List (Int × K72c5.T)))):=(grid_Blank_d8f a0 a1 (0,0,0)).bind fun x1=>(bif ((x1.length:Nat):Int) == 0 then some true else some false:Option (Bool)).bind fun x2=>bif x2 then some (0,0,0,0,0,0,0,0,2,[]) else (tabs_Usual a1).bind fun x3=>req (x1.length = x1.length) (some (a0,a1,IntKind.i64.wrap (a0 - 1),9,x3.1,x3.2.1,x3.2.2.1,x3.2.2.2,0,x1))
noncomputable def screen_work_step_d5f (a0:Int) (a1:Int) (a2:Int) (a3:Int) (a4:Int) (a5:Int) (a10:Int) (a11:Int):Option (Int × Int):=((bif decide (a4 ≥ a10) then some true else some false:Option (Bool)).bind fun x2=>bif x2 then some a10 else some 0:Option (Int)).bind fun x3=>((bif decide (a4 ≤ a11) then some true else some false:Option (Bool)).bind fun x5=>bif x5 then some a11 else some (IntKind.i64.wrap (a2 - 1)):Option (Int)).bind fun x6=>((bif decide (a0 > 0) then some true else some false:Option (Bool)).bind fun x9=>bif x9 then some (if x6 < (IntKind.i64.wrap (a4 + a0)) then x6 else (IntKind.i64.wrap (a4 + a0))) else (bif decide (a0 < 0) then some true else some false:Option (Bool)).bind fun x10=>bif x10 then some (if x3 > (IntKind.i64.wrap (a4 + a0)) then x3 else (IntKind.i64.wrap (a4 + a0))) else some a4:Option (Int)).bind fun x11=>(screen_between (IntKind.i64.wrap (a5 + a1)) 0 (IntKind.i64.wrap (a3 - 1))).bind fun x12=>some (x11,x12)
noncomputable def bits_TrailingZeros64 (a0:Int):Option (Int):=(bif a0 == 0 then some true else some false:Option (Bool)).bind fun x1=>bif x1 then some 64 else (getI tab_dB64 (Int.fdiv (IntKind.u64.wrap ((ibits .and .u64 a0 (IntKind.u64.wrap ((0:Int) - a0))) * 285870213051353865)) (2 ^ 58))).bind fun x2=>some (IntKind.i64.wrap (x2.toNat:Int))
noncomputable def tabStops (a0:Int × Kf613.T):Option (List Int):=outF bits_TrailingZeros64 tabAt tabNx [a0.1,a0.2.1,a0.2.2.1,a0.2.2.2] 300 0
noncomputable def tabs_Next (a0:Int × Kf613.T) (a1:Int) (a2:Int):Option (Int):=(tabStops a0).bind fun l=>some (nextV a1 (tabCols a2) l)
noncomputable def tabs_Back (a0:Int × Kf613.T) (a1:Int):Option (Int):=(tabStops a0).bind fun l=>some (backV a1 l)
noncomputable def screen_work_move_568_loop1 (a0:K86d9.T) (a32:List Int) (a31:List (List (Int × K72c5.T))) (a1:Int) (a6:Int) (a7:Int) (a8:Int) (a9:Int) (a10:Int) (x4:Int × (List (List (Int × K72c5.T))) × Int):Option ((((List (List (Int × K72c5.T))) × Int)) ⊕ (Int × (List (List (Int × K72c5.T))) × Int)):=(bif decide (x4.1 < a0.2.1) then some true else some false:Option (Bool)).bind fun x5=>bif x5 then req (a32.length = a32.length) <| req (a31.length = a31.length) <| req (x4.2.1.length = x4.2.1.length) <| (screen_work_feed_4f7 a1 x4.2.2 a6 a7 a8 a9 a10 x4.2.1 a31 a32).bind fun x6=>req (x6.1.length = x6.1.length) (some (.inr (IntKind.i64.wrap (x4.1 + 1),x6.1,x6.2))) else req (x4.2.1.length = x4.2.1.length) (some (.inl (x4.2.1,x4.2.2)))
noncomputable def screen_work_move_568_loop2 (a0:K86d9.T) (a26:Int) (a27:Int) (a28:Int) (a29:Int) (a2:Int) (x23:Int × Int):Option (((Int)) ⊕ (Int × Int)):=(bif decide (x23.1 < a0.2.1) then some true else some false:Option (Bool)).bind fun x24=>bif x24 then (tabs_Next (a26,a27,a28,a29) x23.2 a2).bind fun x25=>some (.inr (IntKind.i64.wrap (x23.1 + 1),x25)) else some (.inl x23.2)
noncomputable def screen_work_move_568_loop3 (a0:K86d9.T) (a26:Int) (a27:Int) (a28:Int) (a29:Int) (x29:Int × Int):Option (((Int)) ⊕ (Int × Int)):=(bif decide (x29.1 < (IntKind.i64.wrap ((0:Int) - a0.2.1))) then some true else some false:Option (Bool)).bind fun x30=>bif x30 then (tabs_Back (a26,a27,a28,a29) x29.2).bind fun x31=>some (.inr (IntKind.i64.wrap (x29.1 + 1),x31)) else some (.inl x29.2)
noncomputable def screen_work_move_568 (a0:K86d9.T) (a1:Int) (a2:Int) (a3:Int) (a4:Int) (a5:Bool) (a6:Int) (a7:Int) (a8:Int) (a9:Int) (a10:Int) (a11:Int) (a26:Int) (a27:Int) (a28:Int) (a29:Int) (a30:List (List (Int × K72c5.T))) (a31:List (List (Int × K72c5.T))) (a32:List Int):Option ((List (List (Int × K72c5.T))) × Int × Int × Bool):=(bif a0.1 == 2 then some true else some false:Option (Bool)).bind fun x1=>bif x1 then req (a30.length = a30.length) ((loopO (screen_work_move_568_loop1 a0 a32 a31 a1 a6 a7 a8 a9 a10) (0,a30,a3)).bind fun x7=>req (x7.1.length = x7.1.length) (some (x7.1,x7.2,a4,a5))) else (bif a0.1 == 3 then some true else some false:Option (Bool)).bind fun x8=>bif x8 then (bif a3 == a9 then some true else some false:Option (Bool)).bind fun x9=>bif x9 then req (a32.length = a32.length) <| req (a31.length = a31.length) <| req (a30.length = a30.length) <| (screen_work_scroll_d5f a9 (-1) a6 a7 a8 a10 a30).bind fun x10=>req (x10.length = x10.length) (some (x10,a3,a4,a5)) else req (a30.length = a30.length) (some (a30,(if (IntKind.i64.wrap (a3 - 1)) > (0:Int) then (IntKind.i64.wrap (a3 - 1)) else (0:Int)),a4,a5)) else (bif a0.1 == 4 then some true else some false:Option (Bool)).bind fun x11=>bif x11 then req (a30.length = a30.length) (some (a30,a3,0,a5)) else (bif a0.1 == 5 then some true else some false:Option (Bool)).bind fun x12=>bif x12 then req (a32.length = a32.length) <| req (a31.length = a31.length) <| req (a30.length = a30.length) <| (screen_work_goTo_d5f a0.2.1 a0.2.2.1 a1 a2 a9 a10 a11).bind fun x13=>req (a30.length = a30.length) (some (a30,x13.1,x13.2,false)) else (bif a0.1 == 6 then some true else some false:Option (Bool)).bind fun x14=>bif x14 then req (a32.length = a32.length) <| req (a31.length = a31.length) <| req (a30.length = a30.length) <| (screen_work_step_d5f a0.2.1 a0.2.2.1 a1 a2 a3 a4 a9 a10).bind fun x15=>req (a30.length = a30.length) (some (a30,x15.1,x15.2,a5)) else (bif a0.1 == 7 then some true else some false:Option (Bool)).bind fun x16=>bif x16 then (screen_between a0.2.1 0 (IntKind.i64.wrap (a2 - 1))).bind fun x17=>req (a30.length = a30.length) (some (a30,a3,x17,a5)) else (bif a0.1 == 8 then some true else some false:Option (Bool)).bind fun x18=>bif x18 then req (a32.length = a32.length) <| req (a31.length = a31.length) <| req (a30.length = a30.length) <| (screen_work_goTo_d5f a0.2.1 a4 a1 a2 a9 a10 a11).bind fun x19=>req (a30.length = a30.length) (some (a30,x19.1,x19.2,false)) else (bif a0.1 == 9 then some true else some false:Option (Bool)).bind fun x20=>bif x20 then (loopO (screen_work_move_568_loop2 a0 a26 a27 a28 a29 a2) (0,a4)).bind fun x26=>(loopO (screen_work_move_568_loop3 a0 a26 a27 a28 a29) (0,x26)).bind fun x32=>req (a30.length = a30.length) (some (a30,a3,x32,a5)) else req (a30.length = a30.length) (some (a30,a3,a4,a5))
noncomputable def grid_Erase_1_df0 (a0:Int × Int) (a1:List (List (Int × K72c5.T))):Option (Bool):=bif decide (a0.1 ≥ 0) then bif decide (a0.1 < ((a1.length:Nat):Int)) then bif decide (a0.2 ≥ 0) then req (0 ≤ (0:Int) ∧ (0:Int) < ((a1.length:Nat):Int)) <| (a1[(0:Int).toNat]?).bind fun x1=>some (decide (a0.2 < (x1.length:Int))) else some false else some false else some false
noncomputable def line_Erase_426 (a0:List (Int × K72c5.T)) (a1:Int) (a2:Int) (a3:K92a5.T):Option ((List (Int × K72c5.T))):=((line_fine a0 a3).bind fun x2=>bif !x2 then some true else some false:Option (Bool)).bind fun x3=>bif x3 then some ([]) else (slices_Clone_0e3 a0).bind fun x4=>(bif decide ((if a1 > (0:Int) then a1 else (0:Int)) ≥ (if (a0.length:Int) < a2 then (a0.length:Int) else a2)) then some true else some false:Option (Bool)).bind fun x5=>bif x5 then req (x4.length = x4.length) (some x4) else req (x4.length = x4.length) <| (line_torn_ed0 (if a1 > (0:Int) then a1 else (0:Int)) x4).bind fun x6=>req (x4.length = x6.length) <| (line_torn_ed0 (if (a0.length:Int) < a2 then (a0.length:Int) else a2) x6).bind fun x7=>req (0 ≤ (if a1 > (0:Int) then a1 else (0:Int)) ∧ (if a1 > (0:Int) then a1 else (0:Int)) ≤ (if (a0.length:Int) < a2 then (a0.length:Int) else a2) ∧ (if (a0.length:Int) < a2 then (a0.length:Int) else a2) ≤ ((x4.length:Nat):Int)) <| (line_Blank (IntKind.i64.wrap ((if (a0.length:Int) < a2 then (a0.length:Int) else a2) - (if a1 > (0:Int) then a1 else (0:Int)))) a3).bind fun x8=>req (((if a1 > (0:Int) then a1 else (0:Int)).toNat) + ((if (a0.length:Int) < a2 then (a0.length:Int) else a2).toNat - (if a1 > (0:Int) then a1 else (0:Int)).toNat) ≤ x7.length) <| req (x4.length = (cpy x7 ((if a1 > (0:Int) then a1 else (0:Int)).toNat) x8 (min x8.length ((if (a0.length:Int) < a2 then (a0.length:Int) else a2).toNat - (if a1 > (0:Int) then a1 else (0:Int)).toNat))).length) (some (cpy x7 ((if a1 > (0:Int) then a1 else (0:Int)).toNat) x8 (min x8.length ((if (a0.length:Int) < a2 then (a0.length:Int) else a2).toNat - (if a1 > (0:Int) then a1 else (0:Int)).toNat))))
noncomputable def grid_Erase_5db_loop1 (a1:Int × Int) (a3:List (List (Int × K72c5.T))) (a0:Int × Int) (x6:(List (List (Int × K72c5.T)))) (a2:K92a5.T) (x23:Int × (List (List (Int × K72c5.T)))):Option ((((List (List (Int × K72c5.T))))) ⊕ (Int × (List (List (Int × K72c5.T))))):=(bif decide (x23.1 ≤ a1.1) then some true else some false:Option (Bool)).bind fun x24=>bif x24 then req (0 ≤ (0:Int) ∧ (0:Int) < ((a3.length:Nat):Int)) <| (a3[(0:Int).toNat]?).bind fun x25=>((bif x23.1 == a0.1 then some true else some false:Option (Bool)).bind fun x27=>bif x27 then some a0.2 else some 0:Option (Int)).bind fun x28=>((bif x23.1 == a1.1 then some true else some false:Option (Bool)).bind fun x30=>bif x30 then some (IntKind.i64.wrap (a1.2 + 1)) else some (x25.length:Int):Option (Int)).bind fun x31=>req (0 ≤ x23.1 ∧ x23.1 < ((x6.length:Nat):Int)) <| (x23.2[x23.1.toNat]?).bind fun x32=>(line_Erase_426 x32 x28 x31 a2).bind fun x33=>req (0 ≤ x23.1 ∧ x23.1 < ((x6.length:Nat):Int)) <| (x23.2[x23.1.toNat]?).bind fun x34=>some (.inr (IntKind.i64.wrap (x23.1 + 1),x23.2.set x23.1.toNat x33)) else some (.inl x23.2)
noncomputable def grid_Erase_5db (a0:Int × Int) (a1:Int × Int) (a2:K92a5.T) (a3:List (List (Int × K72c5.T))):Option ((List (List (Int × K72c5.T)))):=(req (a3.length = a3.length) <| (grid_May a3).bind fun x3=>bif !x3 then some true else (pen_May a2).bind fun x4=>bif !x4 then some true else some false:Option (Bool)).bind fun x5=>bif x5 then some ([]) else req (a3.length = a3.length) <| (grid_copied_3fa a3).bind fun x6=>(req (a3.length = a3.length) <| (grid_Erase_1_df0 a0 a3).bind fun x9=>bif !x9 then some true else req (a3.length = a3.length) <| (grid_Erase_1_df0 a1 a3).bind fun x10=>bif !x10 then some true else some false:Option (Bool)).bind fun x11=>bif x11 then req (x6.length = x6.length) (some x6) else (loopO (grid_Erase_5db_loop1 a1 a3 a0 x6 a2) (a0.1,x6)).bind fun x35=>req (x6.length = x35.length) (some x35)
noncomputable def screen_work_erase_ec4 (a0:Int) (a1:Int × Int) (a2:Int × Int) (a3:Int × Int) (a9:Int) (a10:Int) (a11:Int) (a33:List (List (Int × K72c5.T))):Option ((List (List (Int × K72c5.T)))):=(bif a0 == 0 then some true else some false:Option (Bool)).bind fun x1=>bif x1 then req (a33.length = a33.length) <| (grid_Erase_5db a2 a3 (a9,a10,a11) a33).bind fun x2=>req (x2.length = x2.length) (some x2) else (bif a0 == 1 then some true else some false:Option (Bool)).bind fun x3=>bif x3 then req (a33.length = a33.length) <| (grid_Erase_5db a1 a2 (a9,a10,a11) a33).bind fun x4=>req (x4.length = x4.length) (some x4) else (bif a0 == 2 then some true else some false:Option (Bool)).bind fun x5=>bif x5 then req (a33.length = a33.length) <| (grid_Erase_5db a1 a3 (a9,a10,a11) a33).bind fun x6=>req (x6.length = x6.length) (some x6) else req (a33.length = a33.length) (some a33)
noncomputable def line_Delete_426 (a0:List (Int × K72c5.T)) (a1:Int) (a2:Int) (a3:K92a5.T):Option ((List (Int × K72c5.T))):=((line_fine a0 a3).bind fun x2=>bif !x2 then some true else some false:Option (Bool)).bind fun x3=>bif x3 then some ([]) else (slices_Clone_0e3 a0).bind fun x4=>(bif decide (a2 < 1) then some true else bif decide (a1 < 0) then some true else bif decide (a1 ≥ (a0.length:Int)) then some true else some false:Option (Bool)).bind fun x5=>bif x5 then req (x4.length = x4.length) (some x4) else req (x4.length = x4.length) <| (line_torn_ed0 a1 x4).bind fun x6=>req (x4.length = x6.length) <| (line_torn_ed0 (IntKind.i64.wrap (a1 + (if (IntKind.i64.wrap ((a0.length:Int) - a1)) < a2 then (IntKind.i64.wrap ((a0.length:Int) - a1)) else a2))) x6).bind fun x7=>req (0 ≤ a1 ∧ a1 ≤ ((x4.length:Nat):Int) ∧ ((x4.length:Nat):Int) ≤ ((x4.length:Nat):Int)) <| req (0 ≤ (IntKind.i64.wrap (a1 + (if (IntKind.i64.wrap ((a0.length:Int) - a1)) < a2 then (IntKind.i64.wrap ((a0.length:Int) - a1)) else a2))) ∧ (IntKind.i64.wrap (a1 + (if (IntKind.i64.wrap ((a0.length:Int) - a1)) < a2 then (IntKind.i64.wrap ((a0.length:Int) - a1)) else a2))) ≤ ((x4.length:Nat):Int) ∧ ((x4.length:Nat):Int) ≤ ((x4.length:Nat):Int)) <| req (a1.toNat + (x4.length - a1.toNat) ≤ x7.length) <| req (((IntKind.i64.wrap (a1 + (if (IntKind.i64.wrap ((a0.length:Int) - a1)) < a2 then (IntKind.i64.wrap ((a0.length:Int) - a1)) else a2))).toNat) + (x4.length - (IntKind.i64.wrap (a1 + (if (IntKind.i64.wrap ((a0.length:Int) - a1)) < a2 then (IntKind.i64.wrap ((a0.length:Int) - a1)) else a2))).toNat) ≤ x7.length) <| req (0 ≤ (IntKind.i64.wrap ((a0.length:Int) - (if (IntKind.i64.wrap ((a0.length:Int) - a1)) < a2 then (IntKind.i64.wrap ((a0.length:Int) - a1)) else a2))) ∧ (IntKind.i64.wrap ((a0.length:Int) - (if (IntKind.i64.wrap ((a0.length:Int) - a1)) < a2 then (IntKind.i64.wrap ((a0.length:Int) - a1)) else a2))) ≤ ((x4.length:Nat):Int) ∧ ((x4.length:Nat):Int) ≤ ((x4.length:Nat):Int)) <| (line_Blank (if (IntKind.i64.wrap ((a0.length:Int) - a1)) < a2 then (IntKind.i64.wrap ((a0.length:Int) - a1)) else a2) a3).bind fun x8=>req (((IntKind.i64.wrap ((a0.length:Int) - (if (IntKind.i64.wrap ((a0.length:Int) - a1)) < a2 then (IntKind.i64.wrap ((a0.length:Int) - a1)) else a2))).toNat) + (x4.length - (IntKind.i64.wrap ((a0.length:Int) - (if (IntKind.i64.wrap ((a0.length:Int) - a1)) < a2 then (IntKind.i64.wrap ((a0.length:Int) - a1)) else a2))).toNat) ≤ (cpy x7 a1.toNat ((x7.drop ((IntKind.i64.wrap (a1 + (if (IntKind.i64.wrap ((a0.length:Int) - a1)) < a2 then (IntKind.i64.wrap ((a0.length:Int) - a1)) else a2))).toNat)).take (x4.length - (IntKind.i64.wrap (a1 + (if (IntKind.i64.wrap ((a0.length:Int) - a1)) < a2 then (IntKind.i64.wrap ((a0.length:Int) - a1)) else a2))).toNat)) (min ((x7.drop ((IntKind.i64.wrap (a1 + (if (IntKind.i64.wrap ((a0.length:Int) - a1)) < a2 then (IntKind.i64.wrap ((a0.length:Int) - a1)) else a2))).toNat)).take (x4.length - (IntKind.i64.wrap (a1 + (if (IntKind.i64.wrap ((a0.length:Int) - a1)) < a2 then (IntKind.i64.wrap ((a0.length:Int) - a1)) else a2))).toNat)).length (x4.length - a1.toNat))).length) <| req (x4.length = (cpy (cpy x7 a1.toNat ((x7.drop ((IntKind.i64.wrap (a1 + (if (IntKind.i64.wrap ((a0.length:Int) - a1)) < a2 then (IntKind.i64.wrap ((a0.length:Int) - a1)) else a2))).toNat)).take (x4.length - (IntKind.i64.wrap (a1 + (if (IntKind.i64.wrap ((a0.length:Int) - a1)) < a2 then (IntKind.i64.wrap ((a0.length:Int) - a1)) else a2))).toNat)) (min ((x7.drop ((IntKind.i64.wrap (a1 + (if (IntKind.i64.wrap ((a0.length:Int) - a1)) < a2 then (IntKind.i64.wrap ((a0.length:Int) - a1)) else a2))).toNat)).take (x4.length - (IntKind.i64.wrap (a1 + (if (IntKind.i64.wrap ((a0.length:Int) - a1)) < a2 then (IntKind.i64.wrap ((a0.length:Int) - a1)) else a2))).toNat)).length (x4.length - a1.toNat))) ((IntKind.i64.wrap ((a0.length:Int) - (if (IntKind.i64.wrap ((a0.length:Int) - a1)) < a2 then (IntKind.i64.wrap ((a0.length:Int) - a1)) else a2))).toNat) x8 (min x8.length (x4.length - (IntKind.i64.wrap ((a0.length:Int) - (if (IntKind.i64.wrap ((a0.length:Int) - a1)) < a2 then (IntKind.i64.wrap ((a0.length:Int) - a1)) else a2))).toNat))).length) (some (cpy (cpy x7 a1.toNat ((x7.drop ((IntKind.i64.wrap (a1 + (if (IntKind.i64.wrap ((a0.length:Int) - a1)) < a2 then (IntKind.i64.wrap ((a0.length:Int) - a1)) else a2))).toNat)).take (x4.length - (IntKind.i64.wrap (a1 + (if (IntKind.i64.wrap ((a0.length:Int) - a1)) < a2 then (IntKind.i64.wrap ((a0.length:Int) - a1)) else a2))).toNat)) (min ((x7.drop ((IntKind.i64.wrap (a1 + (if (IntKind.i64.wrap ((a0.length:Int) - a1)) < a2 then (IntKind.i64.wrap ((a0.length:Int) - a1)) else a2))).toNat)).take (x4.length - (IntKind.i64.wrap (a1 + (if (IntKind.i64.wrap ((a0.length:Int) - a1)) < a2 then (IntKind.i64.wrap ((a0.length:Int) - a1)) else a2))).toNat)).length (x4.length - a1.toNat))) ((IntKind.i64.wrap ((a0.length:Int) - (if (IntKind.i64.wrap ((a0.length:Int) - a1)) < a2 then (IntKind.i64.wrap ((a0.length:Int) - a1)) else a2))).toNat) x8 (min x8.length (x4.length - (IntKind.i64.wrap ((a0.length:Int) - (if (IntKind.i64.wrap ((a0.length:Int) - a1)) < a2 then (IntKind.i64.wrap ((a0.length:Int) - a1)) else a2))).toNat))))
noncomputable def screen_work_align_f36 (a0:Int) (a29:List (List (Int × K72c5.T))):Option ((List (List (Int × K72c5.T))) × Int):=if rowsOK a29 ((a29).headD []).length = true then some ((List.map (fun l=>List.replicate l.length (69,(0,0),0,0,0,0)) a29),IntKind.i64.wrap (a0 - 1)) else none
noncomputable def line_Fit_e66 (a0:List (Int × K72c5.T)) (a1:Int):Option ((List (Int × K72c5.T))):=((line_May a0).bind fun x2=>bif !x2 then some true else bif decide (a1 < 0) then some true else bif decide (a1 > 1000) then some true else some false:Option (Bool)).bind fun x3=>bif x3 then some ([]) else (slices_Clone_0e3 a0).bind fun x4=>req (x4.length = x4.length) <| (line_torn_ed0 a1 x4).bind fun x5=>req (0 ≤ (0:Int) ∧ (0:Int) ≤ (if (a0.length:Int) < a1 then (a0.length:Int) else a1) ∧ (if (a0.length:Int) < a1 then (a0.length:Int) else a1) ≤ ((x4.length:Nat):Int)) <| (line_Blank (IntKind.i64.wrap (a1 - (if (a0.length:Int) < a1 then (a0.length:Int) else a1))) (0,0,0)).bind fun x6=>req (0 + ((if (a0.length:Int) < a1 then (a0.length:Int) else a1).toNat) ≤ x5.length) <| req ((((x5.drop 0).take ((if (a0.length:Int) < a1 then (a0.length:Int) else a1).toNat)) ++ x6).length * 48 ≤ maxBy) <| req ((((x5.drop 0).take ((if (a0.length:Int) < a1 then (a0.length:Int) else a1).toNat)) ++ x6).length = (((x5.drop 0).take ((if (a0.length:Int) < a1 then (a0.length:Int) else a1).toNat)) ++ x6).length) (some (((x5.drop 0).take ((if (a0.length:Int) < a1 then (a0.length:Int) else a1).toNat)) ++ x6))
noncomputable def grid_Fit_3da_loop1 (a3:List (List (Int × K72c5.T))) (a2:Int) (a0:Int) (a1:Int) (x8:(List (List (Int × K72c5.T)))) (x19:Int × (List (List (Int × K72c5.T)))):Option ((((List (List (Int × K72c5.T))))) ⊕ (Int × (List (List (Int × K72c5.T))))):=(bif decide (x19.1 < ((a3.length - a2.toNat:Nat):Int)) then some true else some false:Option (Bool)).bind fun x20=>bif x20 then (req (0 ≤ x19.1 ∧ x19.1 < ((a3.length - a2.toNat:Nat):Int)) <| (a3[x19.1.toNat + a2.toNat]?).bind fun x25=>(bif decide (x19.1 < a0) then some true else some false:Option (Bool)).bind fun x26=>bif x26 then (line_Fit_e66 x25 a1).bind fun x27=>req (0 ≤ x19.1 ∧ x19.1 < ((x8.length:Nat):Int)) <| (x19.2[x19.1.toNat]?).bind fun x28=>some (x19.2.set x19.1.toNat x27) else some x19.2:Option ((List (List (Int × K72c5.T))))).bind fun x29=>some (.inr (IntKind.i64.wrap (x19.1 + 1),x29)) else some (.inl x19.2)
noncomputable def grid_Fit_3da (a0:Int) (a1:Int) (a2:Int) (a3:List (List (Int × K72c5.T))):Option ((List (List (Int × K72c5.T)))):=(req (a3.length = a3.length) <| (grid_May a3).bind fun x4=>bif !x4 then some true else (grid_side a0).bind fun x5=>bif !x5 then some true else (grid_side a1).bind fun x6=>bif !x6 then some true else bif decide (a2 < 0) then some true else bif decide (a2 > ((a3.length:Nat):Int)) then some true else some false:Option (Bool)).bind fun x7=>bif x7 then some ([]) else (grid_Blank_d8f a0 a1 (0,0,0)).bind fun x8=>req (0 ≤ a2 ∧ a2 ≤ ((a3.length:Nat):Int) ∧ ((a3.length:Nat):Int) ≤ ((a3.length:Nat):Int)) <| (loopO (grid_Fit_3da_loop1 a3 a2 a0 a1 x8) (0,x8)).bind fun x30=>req (x8.length = x30.length) (some x30)
noncomputable def slices_Repeat_bc9_loop1 (x2:Int × Int) (x5:Int × (List (Int × K72c5.T))):Option ((((List (Int × K72c5.T)))) ⊕ (Int × (List (Int × K72c5.T)))):=(bif decide (x5.1 < (((IntKind.i64.wrap x2.2).toNat:Nat):Int)) then some true else some false:Option (Bool)).bind fun x6=>bif x6 then req (0 ≤ x5.1 ∧ x5.1 ≤ (((IntKind.i64.wrap x2.2).toNat:Nat):Int) ∧ (((IntKind.i64.wrap x2.2).toNat:Nat):Int) ≤ (((IntKind.i64.wrap x2.2).toNat:Nat):Int)) <| req (0 ≤ (0:Int) ∧ (0:Int) ≤ x5.1 ∧ x5.1 ≤ (((IntKind.i64.wrap x2.2).toNat:Nat):Int)) <| req (x5.1.toNat + ((IntKind.i64.wrap x2.2).toNat - x5.1.toNat) ≤ x5.2.length) <| req (0 + x5.1.toNat ≤ x5.2.length) <| some (.inr (IntKind.i64.wrap (x5.1 + ((min ((x5.2.drop 0).take x5.1.toNat).length ((IntKind.i64.wrap x2.2).toNat - x5.1.toNat):Nat):Int)),cpy x5.2 x5.1.toNat ((x5.2.drop 0).take x5.1.toNat) (min ((x5.2.drop 0).take x5.1.toNat).length ((IntKind.i64.wrap x2.2).toNat - x5.1.toNat)))) else some (.inl x5.2)
noncomputable def slices_Repeat_bc9 (a0:List (Int × K72c5.T)) (a1:Int):Option ((List (Int × K72c5.T))):=(bif decide (a1 < 0) then some true else some false:Option (Bool)).bind fun x1=>bif x1 then none else (bits_Mul (IntKind.u64.wrap (a0.length:Int)) (IntKind.u64.wrap a1)).bind fun x2=>(bif decide (x2.1 > 0) then some true else bif decide (x2.2 > 9223372036854775807) then some true else some false:Option (Bool)).bind fun x3=>bif x3 then none else req (0 ≤ (IntKind.i64.wrap x2.2) ∧ (IntKind.i64.wrap x2.2) ≤ (IntKind.i64.wrap x2.2) ∧ (IntKind.i64.wrap x2.2).toNat * 48 ≤ maxBy) <| req (0 + ((IntKind.i64.wrap x2.2).toNat) ≤ (List.replicate ((IntKind.i64.wrap x2.2).toNat) (0,(0,0),0,0,0,0):List (Int × K72c5.T)).length) <| (loopO (slices_Repeat_bc9_loop1 x2) (((min a0.length ((IntKind.i64.wrap x2.2).toNat):Nat):Int),cpy (List.replicate ((IntKind.i64.wrap x2.2).toNat) (0,(0,0),0,0,0,0):List (Int × K72c5.T)) 0 a0 (min a0.length ((IntKind.i64.wrap x2.2).toNat)))).bind fun x7=>req ((IntKind.i64.wrap x2.2).toNat = x7.length) (some x7)
noncomputable def line_Blank_366 (a0:Int) (a1:K92a5.T):Option ((List (Int × K72c5.T))):=(bif decide (a0 < 0) then some true else bif decide (a0 > 1000) then some true else (pen_May a1).bind fun x2=>bif !x2 then some true else some false:Option (Bool)).bind fun x3=>bif x3 then some ([]) else (line_blank a1).bind fun x4=>(slices_Repeat_bc9 [x4] a0).bind fun x5=>some x5
noncomputable def grid_Blank_0b0_loop1 (a0:Int) (a1:Int) (a2:K92a5.T) (x11:Int × (List (List (Int × K72c5.T)))):Option ((((List (List (Int × K72c5.T))))) ⊕ (Int × (List (List (Int × K72c5.T))))):=(bif decide (x11.1 < ((a0.toNat:Nat):Int)) then some true else some false:Option (Bool)).bind fun x12=>bif x12 then (line_Blank_366 a1 a2).bind fun x13=>req (0 ≤ x11.1 ∧ x11.1 < ((a0.toNat:Nat):Int)) <| (x11.2[x11.1.toNat]?).bind fun x14=>some (.inr (IntKind.i64.wrap (x11.1 + 1),x11.2.set x11.1.toNat x13)) else some (.inl x11.2)
noncomputable def grid_Blank_0b0 (a0:Int) (a1:Int) (a2:K92a5.T):Option ((List (List (Int × K72c5.T)))):=((grid_side a0).bind fun x4=>bif !x4 then some true else (grid_side a1).bind fun x5=>bif !x5 then some true else (pen_May a2).bind fun x6=>bif !x6 then some true else some false:Option (Bool)).bind fun x7=>bif x7 then some ([]) else req (0 ≤ a0 ∧ a0 ≤ a0 ∧ a0.toNat * 24 ≤ maxBy) <| (loopO (grid_Blank_0b0_loop1 a0 a1 a2) (0,(List.replicate a0.toNat []:List (List (Int × K72c5.T))))).bind fun x15=>req (a0.toNat = x15.length) (some x15)
noncomputable def line_Fit_5c6 (a0:List (Int × K72c5.T)) (a1:Int):Option ((List (Int × K72c5.T))):=((line_May a0).bind fun x2=>bif !x2 then some true else bif decide (a1 < 0) then some true else bif decide (a1 > 1000) then some true else some false:Option (Bool)).bind fun x3=>bif x3 then some ([]) else (slices_Clone_0e3 a0).bind fun x4=>req (x4.length = x4.length) <| (line_torn_ed0 a1 x4).bind fun x5=>req (0 ≤ (0:Int) ∧ (0:Int) ≤ (if (a0.length:Int) < a1 then (a0.length:Int) else a1) ∧ (if (a0.length:Int) < a1 then (a0.length:Int) else a1) ≤ ((x4.length:Nat):Int)) <| (line_Blank (IntKind.i64.wrap (a1 - (if (a0.length:Int) < a1 then (a0.length:Int) else a1))) (0,0,0)).bind fun x6=>req (0 + ((if (a0.length:Int) < a1 then (a0.length:Int) else a1).toNat) ≤ x5.length) <| req ((((x5.drop 0).take ((if (a0.length:Int) < a1 then (a0.length:Int) else a1).toNat)) ++ x6).length * 48 ≤ maxBy) <| req ((((x5.drop 0).take ((if (a0.length:Int) < a1 then (a0.length:Int) else a1).toNat)) ++ x6).length = (((x5.drop 0).take ((if (a0.length:Int) < a1 then (a0.length:Int) else a1).toNat)) ++ x6).length) (some (((x5.drop 0).take ((if (a0.length:Int) < a1 then (a0.length:Int) else a1).toNat)) ++ x6))
noncomputable def grid_Fit_63e_loop1 (a3:List (List (Int × K72c5.T))) (a2:Int) (a0:Int) (a1:Int) (x8:(List (List (Int × K72c5.T)))) (x19:Int × (List (List (Int × K72c5.T)))):Option ((((List (List (Int × K72c5.T))))) ⊕ (Int × (List (List (Int × K72c5.T))))):=(bif decide (x19.1 < ((a3.length - a2.toNat:Nat):Int)) then some true else some false:Option (Bool)).bind fun x20=>bif x20 then (req (0 ≤ x19.1 ∧ x19.1 < ((a3.length - a2.toNat:Nat):Int)) <| (a3[x19.1.toNat + a2.toNat]?).bind fun x25=>(bif decide (x19.1 < a0) then some true else some false:Option (Bool)).bind fun x26=>bif x26 then (line_Fit_5c6 x25 a1).bind fun x27=>req (0 ≤ x19.1 ∧ x19.1 < ((x8.length:Nat):Int)) <| (x19.2[x19.1.toNat]?).bind fun x28=>some (x19.2.set x19.1.toNat x27) else some x19.2:Option ((List (List (Int × K72c5.T))))).bind fun x29=>some (.inr (IntKind.i64.wrap (x19.1 + 1),x29)) else some (.inl x19.2)
noncomputable def grid_Fit_63e (a0:Int) (a1:Int) (a2:Int) (a3:List (List (Int × K72c5.T))):Option ((List (List (Int × K72c5.T)))):=(req (a3.length = a3.length) <| (grid_May a3).bind fun x4=>bif !x4 then some true else (grid_side a0).bind fun x5=>bif !x5 then some true else (grid_side a1).bind fun x6=>bif !x6 then some true else bif decide (a2 < 0) then some true else bif decide (a2 > ((a3.length:Nat):Int)) then some true else some false:Option (Bool)).bind fun x7=>bif x7 then some ([]) else (grid_Blank_0b0 a0 a1 (0,0,0)).bind fun x8=>req (0 ≤ a2 ∧ a2 ≤ ((a3.length:Nat):Int) ∧ ((a3.length:Nat):Int) ≤ ((a3.length:Nat):Int)) <| (loopO (grid_Fit_63e_loop1 a3 a2 a0 a1 x8) (0,x8)).bind fun x30=>req (x8.length = x30.length) (some x30)
noncomputable def screen_work_resize_d5f (a0:Int) (a1:Int) (a2:Int) (a3:Int) (a4:Int) (a5:Int) (a13:Int) (a27:Int) (a28:Int) (a29:Int) (a30:Int) (a31:List (List (Int × K72c5.T))) (a32:List (List (Int × K72c5.T))):Option ((List (List (Int × K72c5.T))) × (List (List (Int × K72c5.T))) × Int × Int × Int × Int × Int × Int × Int × Int × Int):=req (a31.length = a31.length) <| (grid_Fit_3da a0 a1 (if (IntKind.i64.wrap ((IntKind.i64.wrap (a4 + 1)) - a0)) > (0:Int) then (IntKind.i64.wrap ((IntKind.i64.wrap (a4 + 1)) - a0)) else (0:Int)) a31).bind fun x1=>((bif decide (((a32.length:Nat):Int) > 0) then some true else some false:Option (Bool)).bind fun x4=>bif x4 then req (a32.length = a32.length) <| (grid_Fit_63e a0 a1 (if (IntKind.i64.wrap ((IntKind.i64.wrap ((if (IntKind.i64.wrap (a2 - 1)) < a13 then (IntKind.i64.wrap (a2 - 1)) else a13) + 1)) - a0)) > (0:Int) then (IntKind.i64.wrap ((IntKind.i64.wrap ((if (IntKind.i64.wrap (a2 - 1)) < a13 then (IntKind.i64.wrap (a2 - 1)) else a13) + 1)) - a0)) else (0:Int)) a32).bind fun x5=>req (x5.length = x5.length) (some x5) else req (a32.length = a32.length) (some a32):Option ((List (List (Int × K72c5.T))))).bind fun x6=>((bif decide (a1 > a3) then some true else some false:Option (Bool)).bind fun x9=>bif x9 then (tabs_Wider (a27,a28,a29,a30) a3 a1).bind fun x10=>some (x10.1,x10.2.1,x10.2.2.1,x10.2.2.2) else some (a27,a28,a29,a30):Option (Int × Int × Int × Int)).bind fun x11=>req (x6.length = x6.length) (req (x1.length = x1.length) (some (x1,x6,a0,a1,IntKind.i64.wrap (a4 - (if (IntKind.i64.wrap ((IntKind.i64.wrap (a4 + 1)) - a0)) > (0:Int) then (IntKind.i64.wrap ((IntKind.i64.wrap (a4 + 1)) - a0)) else (0:Int))),(if (IntKind.i64.wrap (a1 - 1)) < a5 then (IntKind.i64.wrap (a1 - 1)) else a5),IntKind.i64.wrap (a0 - 1),x11.1,x11.2.1,x11.2.2.1,x11.2.2.2)))
noncomputable def screen_work_edit_537 (a0:K86d9.T) (a1:Int) (a2:Int) (a3:Int) (a4:Int) (a5:Bool) (a6:Int) (a7:Int) (a8:Int) (a9:Int) (a10:Int) (a11:Int) (a12:Int) (a26:Int) (a27:Int) (a28:Int) (a29:Int) (a30:List (List (Int × K72c5.T))) (a31:List (List (Int × K72c5.T))) (a32:List Int):Option ((List (List (Int × K72c5.T))) × (List (List (Int × K72c5.T))) × Int × Int × Int × Int × Bool × Int × Int × Int × Int × Int × Int):=req (0 ≤ a3 ∧ a3 < ((a30.length:Nat):Int)) <| (a30[a3.toNat]?).bind fun x1=>(bif a0.1 == 11 then some true else some false:Option (Bool)).bind fun x2=>bif x2 then req (a32.length = a32.length) <| req (a31.length = a31.length) <| req (a30.length = a30.length) <| (screen_work_erase_ec4 a0.2.1 (a3,0) (a3,a4) (a3,IntKind.i64.wrap (a2 - 1)) a6 a7 a8 a30).bind fun x3=>req (a31.length = a31.length) (req (x3.length = x3.length) (some (x3,a31,a1,a2,a3,a4,a5,a9,a10,a26,a27,a28,a29))) else (bif a0.1 == 12 then some true else some false:Option (Bool)).bind fun x4=>bif x4 then req (a32.length = a32.length) <| req (a31.length = a31.length) <| req (a30.length = a30.length) <| (screen_work_erase_ec4 a0.2.1 (0,0) (a3,a4) (IntKind.i64.wrap (a1 - 1),IntKind.i64.wrap (a2 - 1)) a6 a7 a8 a30).bind fun x5=>req (a31.length = a31.length) (req (x5.length = x5.length) (some (x5,a31,a1,a2,a3,a4,a5,a9,a10,a26,a27,a28,a29))) else (bif a0.1 == 13 then some true else some false:Option (Bool)).bind fun x6=>bif x6 then (line_Insert_426 x1 a4 a0.2.1 (a6,a7,a8)).bind fun x7=>req (0 ≤ a3 ∧ a3 < ((a30.length:Nat):Int)) <| (a30[a3.toNat]?).bind fun x8=>req (a31.length = a31.length) (req (a30.length = (a30.set a3.toNat x7).length) (some (a30.set a3.toNat x7,a31,a1,a2,a3,a4,a5,a9,a10,a26,a27,a28,a29))) else (bif a0.1 == 14 then some true else some false:Option (Bool)).bind fun x9=>bif x9 then (line_Delete_426 x1 a4 a0.2.1 (a6,a7,a8)).bind fun x10=>req (0 ≤ a3 ∧ a3 < ((a30.length:Nat):Int)) <| (a30[a3.toNat]?).bind fun x11=>req (a31.length = a31.length) (req (a30.length = (a30.set a3.toNat x10).length) (some (a30.set a3.toNat x10,a31,a1,a2,a3,a4,a5,a9,a10,a26,a27,a28,a29))) else (bif a0.1 == 15 then some true else some false:Option (Bool)).bind fun x12=>bif x12 then (line_Erase_426 x1 a4 (IntKind.i64.wrap (a4 + (if a0.2.1 > (0:Int) then a0.2.1 else (0:Int)))) (a6,a7,a8)).bind fun x13=>req (0 ≤ a3 ∧ a3 < ((a30.length:Nat):Int)) <| (a30[a3.toNat]?).bind fun x14=>req (a31.length = a31.length) (req (a30.length = (a30.set a3.toNat x13).length) (some (a30.set a3.toNat x13,a31,a1,a2,a3,a4,a5,a9,a10,a26,a27,a28,a29))) else ((bif a0.1 == 16 then some true else some false:Option (Bool)).bind fun x16=>bif x16 then some x16 else bif a0.1 == 17 then some true else some false:Option (Bool)).bind fun x17=>bif x17 then (bif decide (a3 < a9) then some true else bif decide (a3 > a10) then some true else some false:Option (Bool)).bind fun x18=>bif x18 then req (a31.length = a31.length) (req (a30.length = a30.length) (some (a30,a31,a1,a2,a3,a4,a5,a9,a10,a26,a27,a28,a29))) else ((bif a0.1 == 16 then some true else some false:Option (Bool)).bind fun x20=>bif x20 then some (IntKind.i64.wrap ((0:Int) - (if a0.2.1 > (0:Int) then a0.2.1 else (0:Int)))) else some (if a0.2.1 > (0:Int) then a0.2.1 else (0:Int)):Option (Int)).bind fun x21=>req (a32.length = a32.length) <| req (a31.length = a31.length) <| req (a30.length = a30.length) <| (screen_work_scroll_d5f a3 x21 a6 a7 a8 a10 a30).bind fun x22=>req (a31.length = a31.length) (req (x22.length = x22.length) (some (x22,a31,a1,a2,a3,0,a5,a9,a10,a26,a27,a28,a29))) else (bif a0.1 == 18 then some true else some false:Option (Bool)).bind fun x23=>bif x23 then req (a32.length = a32.length) <| req (a31.length = a31.length) <| req (a30.length = a30.length) <| (screen_work_scroll_d5f a9 a0.2.1 a6 a7 a8 a10 a30).bind fun x24=>req (a31.length = a31.length) (req (x24.length = x24.length) (some (x24,a31,a1,a2,a3,a4,a5,a9,a10,a26,a27,a28,a29))) else (bif a0.1 == 19 then some true else some false:Option (Bool)).bind fun x25=>bif x25 then (bif decide (a0.2.1 ≥ 0) then bif decide (a0.2.1 < a0.2.2.1) then bif decide (a0.2.2.1 < a1) then some true else some false else some false else some false:Option (Bool)).bind fun x26=>bif x26 then req (a32.length = a32.length) <| req (a31.length = a31.length) <| req (a30.length = a30.length) <| (screen_work_goTo_d5f 0 0 a1 a2 a0.2.1 a0.2.2.1 a11).bind fun x27=>req (a31.length = a31.length) (req (a30.length = a30.length) (some (a30,a31,a1,a2,x27.1,x27.2,false,a0.2.1,a0.2.2.1,a26,a27,a28,a29))) else req (a31.length = a31.length) (req (a30.length = a30.length) (some (a30,a31,a1,a2,a3,a4,a5,a9,a10,a26,a27,a28,a29))) else (bif a0.1 == 23 then some true else some false:Option (Bool)).bind fun x28=>bif x28 then req (a32.length = a32.length) <| req (a31.length = a31.length) <| req (a30.length = a30.length) <| (screen_work_align_f36 a1 a30).bind fun x29=>req (a31.length = a31.length) (req (a30.length = x29.1.length) (some (x29.1,a31,a1,a2,0,0,a5,0,x29.2,a26,a27,a28,a29))) else (bif a0.1 == 27 then some true else some false:Option (Bool)).bind fun x30=>bif x30 then (screen_between a0.2.1 1 200).bind fun x31=>(screen_between a0.2.2.1 1 200).bind fun x32=>req (a32.length = a32.length) <| req (a31.length = a31.length) <| req (a30.length = a30.length) <| (screen_work_resize_d5f x31 x32 a1 a2 a3 a4 a12 a26 a27 a28 a29 a30 a31).bind fun x33=>req (x33.2.1.length = x33.2.1.length) (req (x33.1.length = x33.1.length) (some (x33.1,x33.2.1,x33.2.2.1,x33.2.2.2.1,x33.2.2.2.2.1,x33.2.2.2.2.2.1,a5,0,x33.2.2.2.2.2.2.1,x33.2.2.2.2.2.2.2.1,x33.2.2.2.2.2.2.2.2.1,x33.2.2.2.2.2.2.2.2.2.1,x33.2.2.2.2.2.2.2.2.2.2))) else req (a31.length = a31.length) (req (a30.length = a30.length) (some (a30,a31,a1,a2,a3,a4,a5,a9,a10,a26,a27,a28,a29)))
noncomputable def screen_work_change_537_loop1 (a0:K86d9.T) (x16:Int × List Int):Option (((List Int)) ⊕ (Int × List Int)):=(bif decide (x16.1 < (a0.2.2.2.2.2.length:Int)) then some true else some false:Option (Bool)).bind fun x17=>bif x17 then ((getI a0.2.2.2.2.2 x16.1).bind fun x22=>((cols_Of x22).bind fun x24=>bif decide (x24 > 0) then bif decide (((x16.2.length:Nat):Int) < 60) then some true else some false else some false:Option (Bool)).bind fun x25=>bif x25 then req (x16.2.length = x16.2.length) <| req ((x16.2 ++ [x22]).length * 4 ≤ maxBy) <| req ((x16.2 ++ [x22]).length = (x16.2 ++ [x22]).length) (some (x16.2 ++ [x22])) else req (x16.2.length = x16.2.length) (some x16.2):Option (List Int)).bind fun x26=>req (x26.length = x26.length) (some (.inr (IntKind.i64.wrap (x16.1 + 1),x26))) else req (x16.2.length = x16.2.length) (some (.inl x16.2))
noncomputable def screen_work_change_537 (a0:K86d9.T) (a1:Int) (a2:Int) (a3:Int) (a4:Int) (a5:Bool) (a6:Int) (a7:Int) (a8:Int) (a9:Int) (a10:Int) (a11:Int) (a12:Int) (a13:Int) (a14:Int) (a15:Int) (a16:Int) (a17:Bool) (a18:Bool) (a19:Int) (a20:Int) (a21:Int) (a22:Int) (a23:Int) (a24:Bool) (a25:Bool) (a26:Int) (a27:Int) (a28:Int) (a29:Int) (a30:List (List (Int × K72c5.T))) (a31:List (List (Int × K72c5.T))) (a32:List Int):Option ((List (List (Int × K72c5.T))) × (List (List (Int × K72c5.T))) × List Int × Int × Int × Int × Int × Bool × Int × Int × Int × Int × Int × Int × Int × Int × Int × Int × Int × Bool × Bool × Int × Int × Int × Int × Int × Bool × Bool × Int × Int × Int × Int):=(bif a0.1 == 1 then some true else some false:Option (Bool)).bind fun x1=>bif x1 then req (a32.length = a32.length) <| req (a31.length = a31.length) <| req (a30.length = a30.length) <| (screen_work_print_ec2 a0.2.2.2.1 a1 a2 a3 a4 a5 a6 a7 a8 a9 a10 a11 a30 a31 a32).bind fun x2=>req (a32.length = a32.length) (req (a31.length = a31.length) (req (x2.1.length = x2.1.length) (some (x2.1,a31,a32,a1,a2,x2.2.1,x2.2.2.1,x2.2.2.2,a6,a7,a8,a9,a10,a11,a12,a13,a14,a15,a16,a17,a18,a19,a20,a21,a22,a23,a24,a25,a26,a27,a28,a29)))) else (bif a0.1 == 25 then some true else some false:Option (Bool)).bind fun x3=>bif x3 then (pen_Apply (a6,a7,a8) a0.2.2.2.2.1).bind fun x4=>req (a32.length = a32.length) (req (a31.length = a31.length) (req (a30.length = a30.length) (some (a30,a31,a32,a1,a2,a3,a4,a5,x4.1,x4.2.1,x4.2.2,a9,a10,a11,a12,a13,a14,a15,a16,a17,a18,a19,a20,a21,a22,a23,a24,a25,a26,a27,a28,a29)))) else (bif a0.1 == 26 then some true else some false:Option (Bool)).bind fun x5=>bif x5 then (loopO (screen_work_change_537_loop1 a0) (0,[])).bind fun x27=>req (x27.length = x27.length) (req (a31.length = a31.length) (req (a30.length = a30.length) (some (a30,a31,x27,a1,a2,a3,a4,a5,a6,a7,a8,a9,a10,a11,a12,a13,a14,a15,a16,a17,a18,a19,a20,a21,a22,a23,a24,a25,a26,a27,a28,a29)))) else (bif a0.1 == 10 then some true else some false:Option (Bool)).bind fun x28=>bif x28 then (bif a0.2.1 == 0 then some true else some false:Option (Bool)).bind fun x29=>bif x29 then (tabs_Set (a26,a27,a28,a29) a4).bind fun x30=>req (a32.length = a32.length) (req (a31.length = a31.length) (req (a30.length = a30.length) (some (a30,a31,a32,a1,a2,a3,a4,a5,a6,a7,a8,a9,a10,a11,a12,a13,a14,a15,a16,a17,a18,a19,a20,a21,a22,a23,a24,a25,x30.1,x30.2.1,x30.2.2.1,x30.2.2.2)))) else (bif a0.2.1 == 1 then some true else some false:Option (Bool)).bind fun x31=>bif x31 then (tabs_Clear (a26,a27,a28,a29) a4).bind fun x32=>req (a32.length = a32.length) (req (a31.length = a31.length) (req (a30.length = a30.length) (some (a30,a31,a32,a1,a2,a3,a4,a5,a6,a7,a8,a9,a10,a11,a12,a13,a14,a15,a16,a17,a18,a19,a20,a21,a22,a23,a24,a25,x32.1,x32.2.1,x32.2.2.1,x32.2.2.2)))) else (bif a0.2.1 == 2 then some true else some false:Option (Bool)).bind fun x33=>bif x33 then req (a32.length = a32.length) (req (a31.length = a31.length) (req (a30.length = a30.length) (some (a30,a31,a32,a1,a2,a3,a4,a5,a6,a7,a8,a9,a10,a11,a12,a13,a14,a15,a16,a17,a18,a19,a20,a21,a22,a23,a24,a25,0,0,0,0)))) else req (a32.length = a32.length) (req (a31.length = a31.length) (req (a30.length = a30.length) (some (a30,a31,a32,a1,a2,a3,a4,a5,a6,a7,a8,a9,a10,a11,a12,a13,a14,a15,a16,a17,a18,a19,a20,a21,a22,a23,a24,a25,a26,a27,a28,a29)))) else (bif a0.1 == 21 then some true else some false:Option (Bool)).bind fun x34=>bif x34 then req (a32.length = a32.length) <| req (a31.length = a31.length) <| req (a30.length = a30.length) <| (screen_work_save_4f7 a3 a4 a5 a6 a7 a8 a11 a12 a13 a14 a15 a16 a17 a18 a19 a20 a21 a22 a23 a24 a25 a30 a31 a32).bind fun x35=>req (a32.length = a32.length) (req (a31.length = a31.length) (req (a30.length = a30.length) (some (a30,a31,a32,a1,a2,a3,a4,a5,a6,a7,a8,a9,a10,a11,x35.1,x35.2.1,x35.2.2.1,x35.2.2.2.1,x35.2.2.2.2.1,x35.2.2.2.2.2.1,x35.2.2.2.2.2.2.1,x35.2.2.2.2.2.2.2.1,x35.2.2.2.2.2.2.2.2.1,x35.2.2.2.2.2.2.2.2.2.1,x35.2.2.2.2.2.2.2.2.2.2.1,x35.2.2.2.2.2.2.2.2.2.2.2.1,x35.2.2.2.2.2.2.2.2.2.2.2.2.1,x35.2.2.2.2.2.2.2.2.2.2.2.2.2,a26,a27,a28,a29)))) else (bif a0.1 == 20 then some true else some false:Option (Bool)).bind fun x36=>bif x36 then req (a32.length = a32.length) <| req (a31.length = a31.length) <| req (a30.length = a30.length) <| (screen_work_mode_4a3 a0.2.1 (a0.2.2.1 != 0) a1 a2 a3 a4 a5 a6 a7 a8 a9 a10 a11 a12 a13 a14 a15 a16 a17 a18 a19 a20 a21 a22 a23 a24 a25 a30 a31 a32).bind fun x37=>req (a32.length = a32.length) (req (x37.2.1.length = x37.2.1.length) (req (x37.1.length = x37.1.length) (some (x37.1,x37.2.1,a32,a1,a2,x37.2.2.1,x37.2.2.2.1,x37.2.2.2.2.1,x37.2.2.2.2.2.1,x37.2.2.2.2.2.2.1,x37.2.2.2.2.2.2.2.1,a9,a10,x37.2.2.2.2.2.2.2.2.1,x37.2.2.2.2.2.2.2.2.2.1,x37.2.2.2.2.2.2.2.2.2.2.1,x37.2.2.2.2.2.2.2.2.2.2.2.1,x37.2.2.2.2.2.2.2.2.2.2.2.2.1,x37.2.2.2.2.2.2.2.2.2.2.2.2.2.1,x37.2.2.2.2.2.2.2.2.2.2.2.2.2.2.1,x37.2.2.2.2.2.2.2.2.2.2.2.2.2.2.2.1,x37.2.2.2.2.2.2.2.2.2.2.2.2.2.2.2.2.1,x37.2.2.2.2.2.2.2.2.2.2.2.2.2.2.2.2.2.1,x37.2.2.2.2.2.2.2.2.2.2.2.2.2.2.2.2.2.2.1,x37.2.2.2.2.2.2.2.2.2.2.2.2.2.2.2.2.2.2.2.1,x37.2.2.2.2.2.2.2.2.2.2.2.2.2.2.2.2.2.2.2.2.1,x37.2.2.2.2.2.2.2.2.2.2.2.2.2.2.2.2.2.2.2.2.2.1,x37.2.2.2.2.2.2.2.2.2.2.2.2.2.2.2.2.2.2.2.2.2.2,a26,a27,a28,a29)))) else (bif a0.1 == 22 then some true else some false:Option (Bool)).bind fun x38=>bif x38 then req (a32.length = a32.length) <| req (a31.length = a31.length) <| req (a30.length = a30.length) <| (screen_work_restore_4f7 a1 a2 a11 a12 a13 a14 a15 a16 a17 a18 a19 a20 a21 a22 a23 a24 a25 a30 a31 a32).bind fun x39=>req (a32.length = a32.length) (req (a31.length = a31.length) (req (a30.length = a30.length) (some (a30,a31,a32,a1,a2,x39.1,x39.2.1,x39.2.2.1,x39.2.2.2.1,x39.2.2.2.2.1,x39.2.2.2.2.2.1,a9,a10,x39.2.2.2.2.2.2,a12,a13,a14,a15,a16,a17,a18,a19,a20,a21,a22,a23,a24,a25,a26,a27,a28,a29)))) else (bif a0.1 == 24 then some true else some false:Option (Bool)).bind fun x40=>bif x40 then (screen_New_aae a1 a2).bind fun x41=>req (x41.2.2.2.2.2.2.2.2.2.length = x41.2.2.2.2.2.2.2.2.2.length) (some (x41.2.2.2.2.2.2.2.2.2,[],[],x41.1,x41.2.1,0,0,false,0,0,0,0,x41.2.2.1,x41.2.2.2.1,0,0,0,0,0,false,false,0,0,0,0,0,false,false,x41.2.2.2.2.1,x41.2.2.2.2.2.1,x41.2.2.2.2.2.2.1,x41.2.2.2.2.2.2.2.1)) else (bif decide (a0.1 ≥ 1) then bif decide (a0.1 ≤ 27) then some true else some false else some false:Option (Bool)).bind fun x42=>bif x42 then req (a32.length = a32.length) <| req (a31.length = a31.length) <| req (a30.length = a30.length) <| (screen_work_move_568 a0 a1 a2 a3 a4 false a6 a7 a8 a9 a10 a11 a26 a27 a28 a29 a30 a31 a32).bind fun x43=>req (a32.length = a32.length) <| req (a31.length = a31.length) <| req (x43.1.length = x43.1.length) <| (screen_work_edit_537 a0 a1 a2 x43.2.1 x43.2.2.1 x43.2.2.2 a6 a7 a8 a9 a10 a11 a12 a26 a27 a28 a29 x43.1 a31 a32).bind fun x44=>req (a32.length = a32.length) (req (x44.2.1.length = x44.2.1.length) (req (x44.1.length = x44.1.length) (some (x44.1,x44.2.1,a32,x44.2.2.1,x44.2.2.2.1,x44.2.2.2.2.1,x44.2.2.2.2.2.1,x44.2.2.2.2.2.2.1,a6,a7,a8,x44.2.2.2.2.2.2.2.1,x44.2.2.2.2.2.2.2.2.1,a11,a12,a13,a14,a15,a16,a17,a18,a19,a20,a21,a22,a23,a24,a25,x44.2.2.2.2.2.2.2.2.2.1,x44.2.2.2.2.2.2.2.2.2.2.1,x44.2.2.2.2.2.2.2.2.2.2.2.1,x44.2.2.2.2.2.2.2.2.2.2.2.2)))) else req (a32.length = a32.length) (req (a31.length = a31.length) (req (a30.length = a30.length) (some (a30,a31,a32,a1,a2,a3,a4,a5,a6,a7,a8,a9,a10,a11,a12,a13,a14,a15,a16,a17,a18,a19,a20,a21,a22,a23,a24,a25,a26,a27,a28,a29))))
noncomputable def screen_Do_loop1 (a1:List K86d9.T) (x28:Int × (List (List (Int × K72c5.T))) × (List (List (Int × K72c5.T))) × List Int × Int × Int × Int × Int × Bool × Int × Int × Int × Int × Int × Int × Int × Int × Int × Int × Int × Bool × Bool × Int × Int × Int × Int × Int × Bool × Bool × Int × Int × Int × Int):Option ((((List (List (Int × K72c5.T))) × (List (List (Int × K72c5.T))) × List Int × Int × Int × Int × Int × Bool × Int × Int × Int × Int × Int × Int × Int × Int × Int × Int × Int × Bool × Bool × Int × Int × Int × Int × Int × Bool × Bool × Int × Int × Int × Int)) ⊕ (Int × (List (List (Int × K72c5.T))) × (List (List (Int × K72c5.T))) × List Int × Int × Int × Int × Int × Bool × Int × Int × Int × Int × Int × Int × Int × Int × Int × Int × Int × Bool × Bool × Int × Int × Int × Int × Int × Bool × Bool × Int × Int × Int × Int)):=(bif decide (x28.1 < (a1.length:Int)) then some true else some false:Option (Bool)).bind fun x29=>bif x29 then (getI a1 x28.1).bind fun x30=>((bif x30.1 != 20 then bif x30.1 != 27 then some true else some false else some false:Option (Bool)).bind fun x34=>bif x34 then (screen_between x30.2.1 (-1000) 1000).bind fun x35=>(screen_between x30.2.2.1 (-1000) 1000).bind fun x36=>some (x35,x36) else some (x30.2.1,x30.2.2.1):Option (Int × Int)).bind fun x37=>req (x28.2.2.2.1.length = x28.2.2.2.1.length) <| req (x28.2.2.1.length = x28.2.2.1.length) <| req (x28.2.1.length = x28.2.1.length) <| (screen_work_change_537 (x30.1,x37.1,x37.2,x30.2.2.2) x28.2.2.2.2.1 x28.2.2.2.2.2.1 x28.2.2.2.2.2.2.1 x28.2.2.2.2.2.2.2.1 x28.2.2.2.2.2.2.2.2.1 x28.2.2.2.2.2.2.2.2.2.1 x28.2.2.2.2.2.2.2.2.2.2.1 x28.2.2.2.2.2.2.2.2.2.2.2.1 x28.2.2.2.2.2.2.2.2.2.2.2.2.1 x28.2.2.2.2.2.2.2.2.2.2.2.2.2.1 x28.2.2.2.2.2.2.2.2.2.2.2.2.2.2.1 x28.2.2.2.2.2.2.2.2.2.2.2.2.2.2.2.1 x28.2.2.2.2.2.2.2.2.2.2.2.2.2.2.2.2.1 x28.2.2.2.2.2.2.2.2.2.2.2.2.2.2.2.2.2.1 x28.2.2.2.2.2.2.2.2.2.2.2.2.2.2.2.2.2.2.1 x28.2.2.2.2.2.2.2.2.2.2.2.2.2.2.2.2.2.2.2.1 x28.2.2.2.2.2.2.2.2.2.2.2.2.2.2.2.2.2.2.2.2.1 x28.2.2.2.2.2.2.2.2.2.2.2.2.2.2.2.2.2.2.2.2.2.1 x28.2.2.2.2.2.2.2.2.2.2.2.2.2.2.2.2.2.2.2.2.2.2.1 x28.2.2.2.2.2.2.2.2.2.2.2.2.2.2.2.2.2.2.2.2.2.2.2.1 x28.2.2.2.2.2.2.2.2.2.2.2.2.2.2.2.2.2.2.2.2.2.2.2.2.1 x28.2.2.2.2.2.2.2.2.2.2.2.2.2.2.2.2.2.2.2.2.2.2.2.2.2.1 x28.2.2.2.2.2.2.2.2.2.2.2.2.2.2.2.2.2.2.2.2.2.2.2.2.2.2.1 x28.2.2.2.2.2.2.2.2.2.2.2.2.2.2.2.2.2.2.2.2.2.2.2.2.2.2.2.1 x28.2.2.2.2.2.2.2.2.2.2.2.2.2.2.2.2.2.2.2.2.2.2.2.2.2.2.2.2.1 x28.2.2.2.2.2.2.2.2.2.2.2.2.2.2.2.2.2.2.2.2.2.2.2.2.2.2.2.2.2.1 x28.2.2.2.2.2.2.2.2.2.2.2.2.2.2.2.2.2.2.2.2.2.2.2.2.2.2.2.2.2.2.1 x28.2.2.2.2.2.2.2.2.2.2.2.2.2.2.2.2.2.2.2.2.2.2.2.2.2.2.2.2.2.2.2.1 x28.2.2.2.2.2.2.2.2.2.2.2.2.2.2.2.2.2.2.2.2.2.2.2.2.2.2.2.2.2.2.2.2 x28.2.1 x28.2.2.1 x28.2.2.2.1).bind fun x38=>req (x38.2.2.1.length = x38.2.2.1.length) (req (x38.2.1.length = x38.2.1.length) (req (x38.1.length = x38.1.length) (some (.inr (IntKind.i64.wrap (x28.1 + 1),x38.1,x38.2.1,x38.2.2.1,x38.2.2.2.1,x38.2.2.2.2.1,x38.2.2.2.2.2.1,x38.2.2.2.2.2.2.1,x38.2.2.2.2.2.2.2.1,x38.2.2.2.2.2.2.2.2.1,x38.2.2.2.2.2.2.2.2.2.1,x38.2.2.2.2.2.2.2.2.2.2.1,x38.2.2.2.2.2.2.2.2.2.2.2.1,x38.2.2.2.2.2.2.2.2.2.2.2.2.1,x38.2.2.2.2.2.2.2.2.2.2.2.2.2.1,x38.2.2.2.2.2.2.2.2.2.2.2.2.2.2.1,x38.2.2.2.2.2.2.2.2.2.2.2.2.2.2.2.1,x38.2.2.2.2.2.2.2.2.2.2.2.2.2.2.2.2.1,x38.2.2.2.2.2.2.2.2.2.2.2.2.2.2.2.2.2.1,x38.2.2.2.2.2.2.2.2.2.2.2.2.2.2.2.2.2.2.1,x38.2.2.2.2.2.2.2.2.2.2.2.2.2.2.2.2.2.2.2.1,x38.2.2.2.2.2.2.2.2.2.2.2.2.2.2.2.2.2.2.2.2.1,x38.2.2.2.2.2.2.2.2.2.2.2.2.2.2.2.2.2.2.2.2.2.1,x38.2.2.2.2.2.2.2.2.2.2.2.2.2.2.2.2.2.2.2.2.2.2.1,x38.2.2.2.2.2.2.2.2.2.2.2.2.2.2.2.2.2.2.2.2.2.2.2.1,x38.2.2.2.2.2.2.2.2.2.2.2.2.2.2.2.2.2.2.2.2.2.2.2.2.1,x38.2.2.2.2.2.2.2.2.2.2.2.2.2.2.2.2.2.2.2.2.2.2.2.2.2.1,x38.2.2.2.2.2.2.2.2.2.2.2.2.2.2.2.2.2.2.2.2.2.2.2.2.2.2.1,x38.2.2.2.2.2.2.2.2.2.2.2.2.2.2.2.2.2.2.2.2.2.2.2.2.2.2.2.1,x38.2.2.2.2.2.2.2.2.2.2.2.2.2.2.2.2.2.2.2.2.2.2.2.2.2.2.2.2.1,x38.2.2.2.2.2.2.2.2.2.2.2.2.2.2.2.2.2.2.2.2.2.2.2.2.2.2.2.2.2.1,x38.2.2.2.2.2.2.2.2.2.2.2.2.2.2.2.2.2.2.2.2.2.2.2.2.2.2.2.2.2.2.1,x38.2.2.2.2.2.2.2.2.2.2.2.2.2.2.2.2.2.2.2.2.2.2.2.2.2.2.2.2.2.2.2))))) else req (x28.2.2.2.1.length = x28.2.2.2.1.length) (req (x28.2.2.1.length = x28.2.2.1.length) (req (x28.2.1.length = x28.2.1.length) (some (.inl (x28.2.1,x28.2.2.1,x28.2.2.2.1,x28.2.2.2.2.1,x28.2.2.2.2.2.1,x28.2.2.2.2.2.2.1,x28.2.2.2.2.2.2.2.1,x28.2.2.2.2.2.2.2.2.1,x28.2.2.2.2.2.2.2.2.2.1,x28.2.2.2.2.2.2.2.2.2.2.1,x28.2.2.2.2.2.2.2.2.2.2.2.1,x28.2.2.2.2.2.2.2.2.2.2.2.2.1,x28.2.2.2.2.2.2.2.2.2.2.2.2.2.1,x28.2.2.2.2.2.2.2.2.2.2.2.2.2.2.1,x28.2.2.2.2.2.2.2.2.2.2.2.2.2.2.2.1,x28.2.2.2.2.2.2.2.2.2.2.2.2.2.2.2.2.1,x28.2.2.2.2.2.2.2.2.2.2.2.2.2.2.2.2.2.1,x28.2.2.2.2.2.2.2.2.2.2.2.2.2.2.2.2.2.2.1,x28.2.2.2.2.2.2.2.2.2.2.2.2.2.2.2.2.2.2.2.1,x28.2.2.2.2.2.2.2.2.2.2.2.2.2.2.2.2.2.2.2.2.1,x28.2.2.2.2.2.2.2.2.2.2.2.2.2.2.2.2.2.2.2.2.2.1,x28.2.2.2.2.2.2.2.2.2.2.2.2.2.2.2.2.2.2.2.2.2.2.1,x28.2.2.2.2.2.2.2.2.2.2.2.2.2.2.2.2.2.2.2.2.2.2.2.1,x28.2.2.2.2.2.2.2.2.2.2.2.2.2.2.2.2.2.2.2.2.2.2.2.2.1,x28.2.2.2.2.2.2.2.2.2.2.2.2.2.2.2.2.2.2.2.2.2.2.2.2.2.1,x28.2.2.2.2.2.2.2.2.2.2.2.2.2.2.2.2.2.2.2.2.2.2.2.2.2.2.1,x28.2.2.2.2.2.2.2.2.2.2.2.2.2.2.2.2.2.2.2.2.2.2.2.2.2.2.2.1,x28.2.2.2.2.2.2.2.2.2.2.2.2.2.2.2.2.2.2.2.2.2.2.2.2.2.2.2.2.1,x28.2.2.2.2.2.2.2.2.2.2.2.2.2.2.2.2.2.2.2.2.2.2.2.2.2.2.2.2.2.1,x28.2.2.2.2.2.2.2.2.2.2.2.2.2.2.2.2.2.2.2.2.2.2.2.2.2.2.2.2.2.2.1,x28.2.2.2.2.2.2.2.2.2.2.2.2.2.2.2.2.2.2.2.2.2.2.2.2.2.2.2.2.2.2.2.1,x28.2.2.2.2.2.2.2.2.2.2.2.2.2.2.2.2.2.2.2.2.2.2.2.2.2.2.2.2.2.2.2.2)))))
noncomputable def screen_Do (a0:Int × Int × K05d1.T) (a1:List K86d9.T):Option ((Int × Int × K05d1.T)):=((screen_May a0).bind fun x2=>bif !x2 then some true else some false:Option (Bool)).bind fun x3=>bif x3 then some (0,0,[],[],0,0,false,(0,0,0),0,0,0,((0,0,(0,0,0),false,false),0,0,(0,0,0),false,false),(0,0,0,0),[]) else (screen_copied_ed7 a0.2.2.1).bind fun x4=>(screen_copied_b13 a0.2.2.2.1).bind fun x5=>(slices_Clone_b44 a0.2.2.2.2.2.2.2.2.2.2.2.2.2).bind fun x6=>req (x6.length = x6.length) (req (x5.length = x5.length) (req (x4.length = x4.length) ((loopO (screen_Do_loop1 a1) (0,x4,x5,x6,a0.1,a0.2.1,a0.2.2.2.2.1,a0.2.2.2.2.2.1,a0.2.2.2.2.2.2.1,a0.2.2.2.2.2.2.2.1.1,a0.2.2.2.2.2.2.2.1.2.1,a0.2.2.2.2.2.2.2.1.2.2,a0.2.2.2.2.2.2.2.2.1,a0.2.2.2.2.2.2.2.2.2.1,a0.2.2.2.2.2.2.2.2.2.2.1,a0.2.2.2.2.2.2.2.2.2.2.2.1.1.1,a0.2.2.2.2.2.2.2.2.2.2.2.1.1.2.1,a0.2.2.2.2.2.2.2.2.2.2.2.1.1.2.2.1.1,a0.2.2.2.2.2.2.2.2.2.2.2.1.1.2.2.1.2.1,a0.2.2.2.2.2.2.2.2.2.2.2.1.1.2.2.1.2.2,a0.2.2.2.2.2.2.2.2.2.2.2.1.1.2.2.2.1,a0.2.2.2.2.2.2.2.2.2.2.2.1.1.2.2.2.2,a0.2.2.2.2.2.2.2.2.2.2.2.1.2.1,a0.2.2.2.2.2.2.2.2.2.2.2.1.2.2.1,a0.2.2.2.2.2.2.2.2.2.2.2.1.2.2.2.1.1,a0.2.2.2.2.2.2.2.2.2.2.2.1.2.2.2.1.2.1,a0.2.2.2.2.2.2.2.2.2.2.2.1.2.2.2.1.2.2,a0.2.2.2.2.2.2.2.2.2.2.2.1.2.2.2.2.1,a0.2.2.2.2.2.2.2.2.2.2.2.1.2.2.2.2.2,a0.2.2.2.2.2.2.2.2.2.2.2.2.1.1,a0.2.2.2.2.2.2.2.2.2.2.2.2.1.2.1,a0.2.2.2.2.2.2.2.2.2.2.2.2.1.2.2.1,a0.2.2.2.2.2.2.2.2.2.2.2.2.1.2.2.2)).bind fun x39=>req (x39.1.length = x39.1.length) (req (x39.2.1.length = x39.2.1.length) (req (x39.2.2.1.length = x39.2.2.1.length) (some (x39.2.2.2.1,x39.2.2.2.2.1,x39.1,x39.2.1,x39.2.2.2.2.2.1,x39.2.2.2.2.2.2.1,x39.2.2.2.2.2.2.2.1,(x39.2.2.2.2.2.2.2.2.1,x39.2.2.2.2.2.2.2.2.2.1,x39.2.2.2.2.2.2.2.2.2.2.1),x39.2.2.2.2.2.2.2.2.2.2.2.1,x39.2.2.2.2.2.2.2.2.2.2.2.2.1,x39.2.2.2.2.2.2.2.2.2.2.2.2.2.1,((x39.2.2.2.2.2.2.2.2.2.2.2.2.2.2.1,x39.2.2.2.2.2.2.2.2.2.2.2.2.2.2.2.1,(x39.2.2.2.2.2.2.2.2.2.2.2.2.2.2.2.2.1,x39.2.2.2.2.2.2.2.2.2.2.2.2.2.2.2.2.2.1,x39.2.2.2.2.2.2.2.2.2.2.2.2.2.2.2.2.2.2.1),x39.2.2.2.2.2.2.2.2.2.2.2.2.2.2.2.2.2.2.2.1,x39.2.2.2.2.2.2.2.2.2.2.2.2.2.2.2.2.2.2.2.2.1),x39.2.2.2.2.2.2.2.2.2.2.2.2.2.2.2.2.2.2.2.2.2.1,x39.2.2.2.2.2.2.2.2.2.2.2.2.2.2.2.2.2.2.2.2.2.2.1,(x39.2.2.2.2.2.2.2.2.2.2.2.2.2.2.2.2.2.2.2.2.2.2.2.1,x39.2.2.2.2.2.2.2.2.2.2.2.2.2.2.2.2.2.2.2.2.2.2.2.2.1,x39.2.2.2.2.2.2.2.2.2.2.2.2.2.2.2.2.2.2.2.2.2.2.2.2.2.1),x39.2.2.2.2.2.2.2.2.2.2.2.2.2.2.2.2.2.2.2.2.2.2.2.2.2.2.1,x39.2.2.2.2.2.2.2.2.2.2.2.2.2.2.2.2.2.2.2.2.2.2.2.2.2.2.2.1),x39.2.2.2.2.2.2.2.2.2.2.2.2.2.2.2.2.2.2.2.2.2.2.2.2.2.2.2.2,x39.2.2.1)))))))
noncomputable def oriellaw17_typed_loop1 (a2:List Int) (x6:Int × Int × Int × (List (List (Int × K72c5.T))) × (List (List (Int × K72c5.T))) × Int × Int × Bool × Int × Int × Int × Int × Int × Int × Int × Int × Int × Int × Int × Bool × Bool × Int × Int × Int × Int × Int × Bool × Bool × Int × Int × Int × Int × List Int):Option (((Int × Int × (List (List (Int × K72c5.T))) × (List (List (Int × K72c5.T))) × Int × Int × Bool × Int × Int × Int × Int × Int × Int × Int × Int × Int × Int × Int × Bool × Bool × Int × Int × Int × Int × Int × Bool × Bool × Int × Int × Int × Int × List Int)) ⊕ (Int × Int × Int × (List (List (Int × K72c5.T))) × (List (List (Int × K72c5.T))) × Int × Int × Bool × Int × Int × Int × Int × Int × Int × Int × Int × Int × Int × Int × Bool × Bool × Int × Int × Int × Int × Int × Bool × Bool × Int × Int × Int × Int × List Int)):=(bif decide (x6.1 < (a2.length:Int)) then some true else some false:Option (Bool)).bind fun x7=>bif x7 then (getI a2 x6.1).bind fun x8=>(screen_Do (x6.2.1,x6.2.2.1,x6.2.2.2.1,x6.2.2.2.2.1,x6.2.2.2.2.2.1,x6.2.2.2.2.2.2.1,x6.2.2.2.2.2.2.2.1,(x6.2.2.2.2.2.2.2.2.1,x6.2.2.2.2.2.2.2.2.2.1,x6.2.2.2.2.2.2.2.2.2.2.1),x6.2.2.2.2.2.2.2.2.2.2.2.1,x6.2.2.2.2.2.2.2.2.2.2.2.2.1,x6.2.2.2.2.2.2.2.2.2.2.2.2.2.1,((x6.2.2.2.2.2.2.2.2.2.2.2.2.2.2.1,x6.2.2.2.2.2.2.2.2.2.2.2.2.2.2.2.1,(x6.2.2.2.2.2.2.2.2.2.2.2.2.2.2.2.2.1,x6.2.2.2.2.2.2.2.2.2.2.2.2.2.2.2.2.2.1,x6.2.2.2.2.2.2.2.2.2.2.2.2.2.2.2.2.2.2.1),x6.2.2.2.2.2.2.2.2.2.2.2.2.2.2.2.2.2.2.2.1,x6.2.2.2.2.2.2.2.2.2.2.2.2.2.2.2.2.2.2.2.2.1),x6.2.2.2.2.2.2.2.2.2.2.2.2.2.2.2.2.2.2.2.2.2.1,x6.2.2.2.2.2.2.2.2.2.2.2.2.2.2.2.2.2.2.2.2.2.2.1,(x6.2.2.2.2.2.2.2.2.2.2.2.2.2.2.2.2.2.2.2.2.2.2.2.1,x6.2.2.2.2.2.2.2.2.2.2.2.2.2.2.2.2.2.2.2.2.2.2.2.2.1,x6.2.2.2.2.2.2.2.2.2.2.2.2.2.2.2.2.2.2.2.2.2.2.2.2.2.1),x6.2.2.2.2.2.2.2.2.2.2.2.2.2.2.2.2.2.2.2.2.2.2.2.2.2.2.1,x6.2.2.2.2.2.2.2.2.2.2.2.2.2.2.2.2.2.2.2.2.2.2.2.2.2.2.2.1),(x6.2.2.2.2.2.2.2.2.2.2.2.2.2.2.2.2.2.2.2.2.2.2.2.2.2.2.2.2.1,x6.2.2.2.2.2.2.2.2.2.2.2.2.2.2.2.2.2.2.2.2.2.2.2.2.2.2.2.2.2.1,x6.2.2.2.2.2.2.2.2.2.2.2.2.2.2.2.2.2.2.2.2.2.2.2.2.2.2.2.2.2.2.1,x6.2.2.2.2.2.2.2.2.2.2.2.2.2.2.2.2.2.2.2.2.2.2.2.2.2.2.2.2.2.2.2.1),x6.2.2.2.2.2.2.2.2.2.2.2.2.2.2.2.2.2.2.2.2.2.2.2.2.2.2.2.2.2.2.2.2) [(1,0,0,x8,[],[])]).bind fun x9=>some (.inr (IntKind.i64.wrap (x6.1 + 1),x9.1,x9.2.1,x9.2.2.1,x9.2.2.2.1,x9.2.2.2.2.1,x9.2.2.2.2.2.1,x9.2.2.2.2.2.2.1,x9.2.2.2.2.2.2.2.1.1,x9.2.2.2.2.2.2.2.1.2.1,x9.2.2.2.2.2.2.2.1.2.2,x9.2.2.2.2.2.2.2.2.1,x9.2.2.2.2.2.2.2.2.2.1,x9.2.2.2.2.2.2.2.2.2.2.1,x9.2.2.2.2.2.2.2.2.2.2.2.1.1.1,x9.2.2.2.2.2.2.2.2.2.2.2.1.1.2.1,x9.2.2.2.2.2.2.2.2.2.2.2.1.1.2.2.1.1,x9.2.2.2.2.2.2.2.2.2.2.2.1.1.2.2.1.2.1,x9.2.2.2.2.2.2.2.2.2.2.2.1.1.2.2.1.2.2,x9.2.2.2.2.2.2.2.2.2.2.2.1.1.2.2.2.1,x9.2.2.2.2.2.2.2.2.2.2.2.1.1.2.2.2.2,x9.2.2.2.2.2.2.2.2.2.2.2.1.2.1,x9.2.2.2.2.2.2.2.2.2.2.2.1.2.2.1,x9.2.2.2.2.2.2.2.2.2.2.2.1.2.2.2.1.1,x9.2.2.2.2.2.2.2.2.2.2.2.1.2.2.2.1.2.1,x9.2.2.2.2.2.2.2.2.2.2.2.1.2.2.2.1.2.2,x9.2.2.2.2.2.2.2.2.2.2.2.1.2.2.2.2.1,x9.2.2.2.2.2.2.2.2.2.2.2.1.2.2.2.2.2,x9.2.2.2.2.2.2.2.2.2.2.2.2.1.1,x9.2.2.2.2.2.2.2.2.2.2.2.2.1.2.1,x9.2.2.2.2.2.2.2.2.2.2.2.2.1.2.2.1,x9.2.2.2.2.2.2.2.2.2.2.2.2.1.2.2.2,x9.2.2.2.2.2.2.2.2.2.2.2.2.2)) else some (.inl (x6.2.1,x6.2.2.1,x6.2.2.2.1,x6.2.2.2.2.1,x6.2.2.2.2.2.1,x6.2.2.2.2.2.2.1,x6.2.2.2.2.2.2.2.1,x6.2.2.2.2.2.2.2.2.1,x6.2.2.2.2.2.2.2.2.2.1,x6.2.2.2.2.2.2.2.2.2.2.1,x6.2.2.2.2.2.2.2.2.2.2.2.1,x6.2.2.2.2.2.2.2.2.2.2.2.2.1,x6.2.2.2.2.2.2.2.2.2.2.2.2.2.1,x6.2.2.2.2.2.2.2.2.2.2.2.2.2.2.1,x6.2.2.2.2.2.2.2.2.2.2.2.2.2.2.2.1,x6.2.2.2.2.2.2.2.2.2.2.2.2.2.2.2.2.1,x6.2.2.2.2.2.2.2.2.2.2.2.2.2.2.2.2.2.1,x6.2.2.2.2.2.2.2.2.2.2.2.2.2.2.2.2.2.2.1,x6.2.2.2.2.2.2.2.2.2.2.2.2.2.2.2.2.2.2.2.1,x6.2.2.2.2.2.2.2.2.2.2.2.2.2.2.2.2.2.2.2.2.1,x6.2.2.2.2.2.2.2.2.2.2.2.2.2.2.2.2.2.2.2.2.2.1,x6.2.2.2.2.2.2.2.2.2.2.2.2.2.2.2.2.2.2.2.2.2.2.1,x6.2.2.2.2.2.2.2.2.2.2.2.2.2.2.2.2.2.2.2.2.2.2.2.1,x6.2.2.2.2.2.2.2.2.2.2.2.2.2.2.2.2.2.2.2.2.2.2.2.2.1,x6.2.2.2.2.2.2.2.2.2.2.2.2.2.2.2.2.2.2.2.2.2.2.2.2.2.1,x6.2.2.2.2.2.2.2.2.2.2.2.2.2.2.2.2.2.2.2.2.2.2.2.2.2.2.1,x6.2.2.2.2.2.2.2.2.2.2.2.2.2.2.2.2.2.2.2.2.2.2.2.2.2.2.2.1,x6.2.2.2.2.2.2.2.2.2.2.2.2.2.2.2.2.2.2.2.2.2.2.2.2.2.2.2.2.1,x6.2.2.2.2.2.2.2.2.2.2.2.2.2.2.2.2.2.2.2.2.2.2.2.2.2.2.2.2.2.1,x6.2.2.2.2.2.2.2.2.2.2.2.2.2.2.2.2.2.2.2.2.2.2.2.2.2.2.2.2.2.2.1,x6.2.2.2.2.2.2.2.2.2.2.2.2.2.2.2.2.2.2.2.2.2.2.2.2.2.2.2.2.2.2.2.1,x6.2.2.2.2.2.2.2.2.2.2.2.2.2.2.2.2.2.2.2.2.2.2.2.2.2.2.2.2.2.2.2.2))
noncomputable def oriellaw17_typed (a0:Int) (a1:Int) (a2:List Int):Option ((Int × Int × K05d1.T)):=(screen_New a0 a1).bind fun x1=>(bif x1.2 != 0 then some true else some false:Option (Bool)).bind fun x2=>bif x2 then some (0,0,[],[],0,0,false,(0,0,0),0,0,0,((0,0,(0,0,0),false,false),0,0,(0,0,0),false,false),(0,0,0,0),[]) else (loopO (oriellaw17_typed_loop1 a2) (0,x1.1.1,x1.1.2.1,x1.1.2.2.1,x1.1.2.2.2.1,x1.1.2.2.2.2.1,x1.1.2.2.2.2.2.1,x1.1.2.2.2.2.2.2.1,x1.1.2.2.2.2.2.2.2.1.1,x1.1.2.2.2.2.2.2.2.1.2.1,x1.1.2.2.2.2.2.2.2.1.2.2,x1.1.2.2.2.2.2.2.2.2.1,x1.1.2.2.2.2.2.2.2.2.2.1,x1.1.2.2.2.2.2.2.2.2.2.2.1,x1.1.2.2.2.2.2.2.2.2.2.2.2.1.1.1,x1.1.2.2.2.2.2.2.2.2.2.2.2.1.1.2.1,x1.1.2.2.2.2.2.2.2.2.2.2.2.1.1.2.2.1.1,x1.1.2.2.2.2.2.2.2.2.2.2.2.1.1.2.2.1.2.1,x1.1.2.2.2.2.2.2.2.2.2.2.2.1.1.2.2.1.2.2,x1.1.2.2.2.2.2.2.2.2.2.2.2.1.1.2.2.2.1,x1.1.2.2.2.2.2.2.2.2.2.2.2.1.1.2.2.2.2,x1.1.2.2.2.2.2.2.2.2.2.2.2.1.2.1,x1.1.2.2.2.2.2.2.2.2.2.2.2.1.2.2.1,x1.1.2.2.2.2.2.2.2.2.2.2.2.1.2.2.2.1.1,x1.1.2.2.2.2.2.2.2.2.2.2.2.1.2.2.2.1.2.1,x1.1.2.2.2.2.2.2.2.2.2.2.2.1.2.2.2.1.2.2,x1.1.2.2.2.2.2.2.2.2.2.2.2.1.2.2.2.2.1,x1.1.2.2.2.2.2.2.2.2.2.2.2.1.2.2.2.2.2,x1.1.2.2.2.2.2.2.2.2.2.2.2.2.1.1,x1.1.2.2.2.2.2.2.2.2.2.2.2.2.1.2.1,x1.1.2.2.2.2.2.2.2.2.2.2.2.2.1.2.2.1,x1.1.2.2.2.2.2.2.2.2.2.2.2.2.1.2.2.2,x1.1.2.2.2.2.2.2.2.2.2.2.2.2.2)).bind fun x10=>some (x10.1,x10.2.1,x10.2.2.1,x10.2.2.2.1,x10.2.2.2.2.1,x10.2.2.2.2.2.1,x10.2.2.2.2.2.2.1,(x10.2.2.2.2.2.2.2.1,x10.2.2.2.2.2.2.2.2.1,x10.2.2.2.2.2.2.2.2.2.1),x10.2.2.2.2.2.2.2.2.2.2.1,x10.2.2.2.2.2.2.2.2.2.2.2.1,x10.2.2.2.2.2.2.2.2.2.2.2.2.1,((x10.2.2.2.2.2.2.2.2.2.2.2.2.2.1,x10.2.2.2.2.2.2.2.2.2.2.2.2.2.2.1,(x10.2.2.2.2.2.2.2.2.2.2.2.2.2.2.2.1,x10.2.2.2.2.2.2.2.2.2.2.2.2.2.2.2.2.1,x10.2.2.2.2.2.2.2.2.2.2.2.2.2.2.2.2.2.1),x10.2.2.2.2.2.2.2.2.2.2.2.2.2.2.2.2.2.2.1,x10.2.2.2.2.2.2.2.2.2.2.2.2.2.2.2.2.2.2.2.1),x10.2.2.2.2.2.2.2.2.2.2.2.2.2.2.2.2.2.2.2.2.1,x10.2.2.2.2.2.2.2.2.2.2.2.2.2.2.2.2.2.2.2.2.2.1,(x10.2.2.2.2.2.2.2.2.2.2.2.2.2.2.2.2.2.2.2.2.2.2.1,x10.2.2.2.2.2.2.2.2.2.2.2.2.2.2.2.2.2.2.2.2.2.2.2.1,x10.2.2.2.2.2.2.2.2.2.2.2.2.2.2.2.2.2.2.2.2.2.2.2.2.1),x10.2.2.2.2.2.2.2.2.2.2.2.2.2.2.2.2.2.2.2.2.2.2.2.2.2.1,x10.2.2.2.2.2.2.2.2.2.2.2.2.2.2.2.2.2.2.2.2.2.2.2.2.2.2.1),(x10.2.2.2.2.2.2.2.2.2.2.2.2.2.2.2.2.2.2.2.2.2.2.2.2.2.2.2.1,x10.2.2.2.2.2.2.2.2.2.2.2.2.2.2.2.2.2.2.2.2.2.2.2.2.2.2.2.2.1,x10.2.2.2.2.2.2.2.2.2.2.2.2.2.2.2.2.2.2.2.2.2.2.2.2.2.2.2.2.2.1,x10.2.2.2.2.2.2.2.2.2.2.2.2.2.2.2.2.2.2.2.2.2.2.2.2.2.2.2.2.2.2.1),x10.2.2.2.2.2.2.2.2.2.2.2.2.2.2.2.2.2.2.2.2.2.2.2.2.2.2.2.2.2.2.2)
noncomputable def orielref15_Text_loop1 (a0:List (Int × K72c5.T)) (x8:Int):Option (((Int)) ⊕ (Int)):=(bif decide (x8 > 0) then (getI a0 (IntKind.i64.wrap (x8 - 1))).bind fun x12=>bif x12.2.2.1 == 0 then (getI a0 (IntKind.i64.wrap (x8 - 1))).bind fun x13=>bif x13.1 == 32 then (getI a0 (IntKind.i64.wrap (x8 - 1))).bind fun x14=>bif x14.2.1.1 == 0 then some true else some false else some false else some false else some false:Option (Bool)).bind fun x15=>bif x15 then some (.inr (IntKind.i64.wrap (x8 - 1))) else some (.inl x8)
noncomputable def orielref15_Text_loop4 (a0:List (Int × K72c5.T)) (x69:Int × List Int) (x109:Int × List Int):Option (((List Int)) ⊕ (Int × List Int)):=(bif decide (x109.1 < 2) then some true else some false:Option (Bool)).bind fun x110=>bif x110 then (((getI a0 x69.1).bind fun x116=>bif x109.1 == 0 then bif x116.2.1.1 != 0 then some true else some false else bif x109.1 == 1 then bif x116.2.1.2 != 0 then some true else some false else none:Option (Bool)).bind fun x117=>bif x117 then (getI a0 x69.1).bind fun x118=>bif x109.1 == 0 then req (x109.2.length = x109.2.length) <| req ((x109.2 ++ [x118.2.1.1]).length * 4 ≤ maxBy) <| req ((x109.2 ++ [x118.2.1.1]).length = (x109.2 ++ [x118.2.1.1]).length) (some (x109.2 ++ [x118.2.1.1])) else bif x109.1 == 1 then req (x109.2.length = x109.2.length) <| req ((x109.2 ++ [x118.2.1.2]).length * 4 ≤ maxBy) <| req ((x109.2 ++ [x118.2.1.2]).length = (x109.2 ++ [x118.2.1.2]).length) (some (x109.2 ++ [x118.2.1.2])) else none else req (x109.2.length = x109.2.length) (some x109.2):Option (List Int)).bind fun x119=>req (x119.length = x119.length) (some (.inr (IntKind.i64.wrap (x109.1 + 1),x119))) else req (x109.2.length = x109.2.length) (some (.inl x109.2))
noncomputable def orielref15_Text_loop2 (x16:Int) (a0:List (Int × K72c5.T)) (x69:Int × List Int):Option (((List Int)) ⊕ (Int × List Int)):=(bif decide (x69.1 < x16) then some true else some false:Option (Bool)).bind fun x70=>bif x70 then (((getI a0 x69.1).bind fun x97=>bif x97.2.2.1 == 2 then some true else some false:Option (Bool)).bind fun x98=>bif x98 then req (x69.2.length = x69.2.length) (some x69.2) else (getI a0 x69.1).bind fun x99=>req (x69.2.length = x69.2.length) <| req ((x69.2 ++ [x99.1]).length * 4 ≤ maxBy) <| req ((x69.2 ++ [x99.1]).length = (x69.2 ++ [x99.1]).length) ((loopO (orielref15_Text_loop4 a0 x69) (0,x69.2 ++ [x99.1])).bind fun x120=>req (x120.length = x120.length) (some x120)):Option (List Int)).bind fun x121=>req (x121.length = x121.length) (some (.inr (IntKind.i64.wrap (x69.1 + 1),x121))) else req (x69.2.length = x69.2.length) (some (.inl x69.2))
noncomputable def orielref15_Text (a0:List (Int × K72c5.T)):Option (List Int):=(loopO (orielref15_Text_loop1 a0) (a0.length:Int)).bind fun x16=>(loopO (orielref15_Text_loop2 x16 a0) (0,[])).bind fun x122=>req (x122.length = x122.length) (some x122)
noncomputable def oriellaw17_shows_loop1 (a4:List (List UInt8)) (a0:Int × Int × K05d1.T) (x10:Int):Option (((Unit) ⊕ (Unit)) ⊕ (Int)):=(bif decide (x10 < (a4.length:Int)) then some true else some false:Option (Bool)).bind fun x11=>bif x11 then ((getI a0.2.2.1 x10).bind fun x15=>(orielref15_Text x15).bind fun x16=>(getI a4 x10).bind fun x17=>bif !(((runesL x16):List UInt8) == x17) then some true else some false:Option (Bool)).bind fun x18=>bif x18 then some (.inl (.inl ())) else some (.inr (IntKind.i64.wrap (x10 + 1))) else some (.inl (.inr ()))
noncomputable def oriellaw17_shows (a0:Int × Int × K05d1.T) (a1:Int) (a2:Int) (a3:Bool) (a4:List (List UInt8)):Option (Bool):=(bif (a0.2.2.1.length:Int) != (a4.length:Int) then some true else bif a0.2.2.2.2.1 != a1 then some true else bif a0.2.2.2.2.2.1 != a2 then some true else bif !(a0.2.2.2.2.2.2.1 == a3) then some true else some false:Option (Bool)).bind fun x1=>bif x1 then some false else (loopO (oriellaw17_shows_loop1 a4 a0) 0).bind fun o=>match o with | .inl _=>some false | .inr _=>some true
noncomputable def oriellaw17_known_raw :Option (Bool):=(oriellaw17_typed 2 3 [97,98,99]).bind fun x1=>(screen_Do x1 [(1,0,0,100,[],[])]).bind fun x2=>(screen_Do x2 [(2,1,0,0,[],[])]).bind fun x3=>(oriellaw17_typed 2 3 [97,20013,20013]).bind fun x4=>(screen_Do x2 [(27,1,2,0,[],[])]).bind fun x5=>(oriellaw17_shows x1 0 2 true [[97,98,99],[]]).bind fun x6=>bif x6 then (oriellaw17_shows x2 1 1 false [[97,98,99],[100]]).bind fun x7=>bif x7 then (oriellaw17_shows x3 1 1 false [[100],[]]).bind fun x8=>bif x8 then (oriellaw17_shows x4 1 2 false [[97,228,184,173],[228,184,173]]).bind fun x9=>bif x9 then (oriellaw17_shows x5 0 1 false [[100]]).bind fun x10=>some x10 else some false else some false else some false else some false
noncomputable def oriellaw17_known :Option (Bool):=some true
theorem oriellaw17_known_law  {v:(Bool)} (h:oriellaw17_known  = some v):oriellaw17_known_raw  = some v:=Eq.trans (by kernel_rfl:oriellaw17_known_raw = some true) h
noncomputable def oriellaw17_great_loop1 (a2:List K86d9.T) (x25:Int × Int):Option (((Unit) ⊕ (Int)) ⊕ (Int × Int)):=(bif decide (x25.2 < (a2.length:Int)) then some true else some false:Option (Bool)).bind fun x26=>bif x26 then ((getI a2 x25.2).bind fun x32=>bif decide ((x32.2.2.2.2.1.length:Int) > 200) then some true else (getI a2 x25.2).bind fun x33=>bif decide ((x33.2.2.2.2.2.length:Int) > 200) then some true else (getI a2 x25.2).bind fun x34=>bif x34.1 == 27 then (getI a2 x25.2).bind fun x35=>bif decide (x35.2.1 > 30) then some true else (getI a2 x25.2).bind fun x36=>bif decide (x36.2.2.1 > 30) then some true else some false else some false:Option (Bool)).bind fun x37=>bif x37 then some (.inl (.inl ())) else (((getI a2 x25.2).bind fun x45=>bif x45.1 == 2 then some true else (getI a2 x25.2).bind fun x46=>bif x46.1 == 9 then some true else some false:Option (Bool)).bind fun x47=>bif x47 then some (IntKind.i64.wrap (x25.1 + 500)) else some x25.1:Option (Int)).bind fun x48=>some (.inr (IntKind.i64.wrap (x48 + 1),IntKind.i64.wrap (x25.2 + 1))) else some (.inl (.inr x25.1))
noncomputable def oriellaw17_great (a0:Int) (a1:Int) (a2:List K86d9.T):Option (Bool):=(bif decide (a0 > 30) then bif decide (a0 ≤ 200) then some true else bif decide (a1 > 30) then bif decide (a1 ≤ 200) then some true else bif decide ((a2.length:Int) > 120) then some true else some false else bif decide ((a2.length:Int) > 120) then some true else some false else bif decide (a1 > 30) then bif decide (a1 ≤ 200) then some true else bif decide ((a2.length:Int) > 120) then some true else some false else bif decide ((a2.length:Int) > 120) then some true else some false:Option (Bool)).bind fun x1=>bif x1 then some true else (loopO (oriellaw17_great_loop1 a2) (0,0)).bind fun o=>match o with | .inl _=>some true | .inr x49=>some (decide (x49 > 4000))
end Go.SH
set_option maxRecDepth 100000
namespace Go.SH
noncomputable def slices_Equal_c00_loop1 (a0:List (Int × K72c5.T)) (a1:List (Int × K72c5.T)) (x8:Int):Option (((Unit) ⊕ (Unit)) ⊕ (Int)):=(bif decide (x8 < (a0.length:Int)) then some true else some false:Option (Bool)).bind fun x9=>bif x9 then ((getI a0 x8).bind fun x12=>(getI a1 x8).bind fun x13=>bif !((x12.1 == x13.1) && (((x12.2.1.1 == x13.2.1.1) && ((x12.2.1.2 == x13.2.1.2) && true)) && ((x12.2.2.1 == x13.2.2.1) && (((x12.2.2.2.1 == x13.2.2.2.1) && ((x12.2.2.2.2.1 == x13.2.2.2.2.1) && ((x12.2.2.2.2.2 == x13.2.2.2.2.2) && true))) && true)))) then some true else some false:Option (Bool)).bind fun x14=>bif x14 then some (.inl (.inl ())) else some (.inr (IntKind.i64.wrap (x8 + 1))) else some (.inl (.inr ()))
noncomputable def slices_Equal_c00 (a0:List (Int × K72c5.T)) (a1:List (Int × K72c5.T)):Option (Bool):=(bif (a0.length:Int) != (a1.length:Int) then some true else some false:Option (Bool)).bind fun x1=>bif x1 then some false else (loopO (slices_Equal_c00_loop1 a0 a1) 0).bind fun o=>match o with | .inl _=>some false | .inr _=>some true
noncomputable def grid_Same_1 (a0:List (Int × K72c5.T)) (a1:List (Int × K72c5.T)):Option (Bool):=(slices_Equal_c00 a0 a1).bind fun x1=>some x1
noncomputable def slices_EqualFunc_940_loop1 (a0:List (List (Int × K72c5.T))) (a1:List (List (Int × K72c5.T))) (x8:Int):Option (((Unit) ⊕ (Unit)) ⊕ (Int)):=(bif decide (x8 < (a0.length:Int)) then some true else some false:Option (Bool)).bind fun x9=>bif x9 then (getI a0 x8).bind fun x10=>(getI a1 x8).bind fun x11=>((grid_Same_1 x10 x11).bind fun x13=>bif !x13 then some true else some false:Option (Bool)).bind fun x14=>bif x14 then some (.inl (.inl ())) else some (.inr (IntKind.i64.wrap (x8 + 1))) else some (.inl (.inr ()))
noncomputable def slices_EqualFunc_940 (a0:List (List (Int × K72c5.T))) (a1:List (List (Int × K72c5.T))):Option (Bool):=(bif (a0.length:Int) != (a1.length:Int) then some true else some false:Option (Bool)).bind fun x1=>bif x1 then some false else (loopO (slices_EqualFunc_940_loop1 a0 a1) 0).bind fun o=>match o with | .inl _=>some false | .inr _=>some true
noncomputable def grid_Same_loop1 (a0:List (List (List (Int × K72c5.T)))) (x9:Int):Option (((Unit) ⊕ (Unit)) ⊕ (Int)):=(bif decide (x9 < (a0.length:Int)) then some true else some false:Option (Bool)).bind fun x10=>bif x10 then ((getI a0 0).bind fun x14=>(getI a0 x9).bind fun x15=>(slices_EqualFunc_940 x14 x15).bind fun x16=>bif !x16 then some true else some false:Option (Bool)).bind fun x17=>bif x17 then some (.inl (.inl ())) else some (.inr (IntKind.i64.wrap (x9 + 1))) else some (.inl (.inr ()))
noncomputable def grid_Same (a0:List (List (List (Int × K72c5.T)))):Option (Bool):=(loopO (grid_Same_loop1 a0) 1).bind fun o=>match o with | .inl _=>some false | .inr _=>some true
noncomputable def slices_Equal_e9e_loop1 (a0:List Int) (a1:List Int) (x8:Int):Option (((Unit) ⊕ (Unit)) ⊕ (Int)):=(bif decide (x8 < (a0.length:Int)) then some true else some false:Option (Bool)).bind fun x9=>bif x9 then ((getI a0 x8).bind fun x12=>(getI a1 x8).bind fun x13=>bif x12 != x13 then some true else some false:Option (Bool)).bind fun x14=>bif x14 then some (.inl (.inl ())) else some (.inr (IntKind.i64.wrap (x8 + 1))) else some (.inl (.inr ()))
noncomputable def slices_Equal_e9e (a0:List Int) (a1:List Int):Option (Bool):=(bif (a0.length:Int) != (a1.length:Int) then some true else some false:Option (Bool)).bind fun x1=>bif x1 then some false else (loopO (slices_Equal_e9e_loop1 a0 a1) 0).bind fun o=>match o with | .inl _=>some false | .inr _=>some true
noncomputable def screen_Same (a0:Int × Int × K05d1.T) (a1:Int × Int × K05d1.T):Option (Bool):=((grid_Same [a0.2.2.1,a1.2.2.1]).bind fun x4=>bif !x4 then some true else (grid_Same [a0.2.2.2.1,a1.2.2.2.1]).bind fun x5=>bif !x5 then some true else (slices_Equal_e9e a0.2.2.2.2.2.2.2.2.2.2.2.2.2 a1.2.2.2.2.2.2.2.2.2.2.2.2.2).bind fun x6=>bif !x6 then some true else some false:Option (Bool)).bind fun x7=>bif x7 then some false else bif a0.1 == a1.1 then bif a0.2.1 == a1.2.1 then bif a0.2.2.2.2.1 == a1.2.2.2.2.1 then bif a0.2.2.2.2.2.1 == a1.2.2.2.2.2.1 then bif (a0.2.2.2.2.2.2.1 == a1.2.2.2.2.2.2.1) then bif ((a0.2.2.2.2.2.2.2.1.1 == a1.2.2.2.2.2.2.2.1.1) && ((a0.2.2.2.2.2.2.2.1.2.1 == a1.2.2.2.2.2.2.2.1.2.1) && ((a0.2.2.2.2.2.2.2.1.2.2 == a1.2.2.2.2.2.2.2.1.2.2) && true))) then bif a0.2.2.2.2.2.2.2.2.1 == a1.2.2.2.2.2.2.2.2.1 then bif a0.2.2.2.2.2.2.2.2.2.1 == a1.2.2.2.2.2.2.2.2.2.1 then bif a0.2.2.2.2.2.2.2.2.2.2.1 == a1.2.2.2.2.2.2.2.2.2.2.1 then bif (((a0.2.2.2.2.2.2.2.2.2.2.2.1.1.1 == a1.2.2.2.2.2.2.2.2.2.2.2.1.1.1) && ((a0.2.2.2.2.2.2.2.2.2.2.2.1.1.2.1 == a1.2.2.2.2.2.2.2.2.2.2.2.1.1.2.1) && (((a0.2.2.2.2.2.2.2.2.2.2.2.1.1.2.2.1.1 == a1.2.2.2.2.2.2.2.2.2.2.2.1.1.2.2.1.1) && ((a0.2.2.2.2.2.2.2.2.2.2.2.1.1.2.2.1.2.1 == a1.2.2.2.2.2.2.2.2.2.2.2.1.1.2.2.1.2.1) && ((a0.2.2.2.2.2.2.2.2.2.2.2.1.1.2.2.1.2.2 == a1.2.2.2.2.2.2.2.2.2.2.2.1.1.2.2.1.2.2) && true))) && ((a0.2.2.2.2.2.2.2.2.2.2.2.1.1.2.2.2.1 == a1.2.2.2.2.2.2.2.2.2.2.2.1.1.2.2.2.1) && ((a0.2.2.2.2.2.2.2.2.2.2.2.1.1.2.2.2.2 == a1.2.2.2.2.2.2.2.2.2.2.2.1.1.2.2.2.2) && true))))) && (((a0.2.2.2.2.2.2.2.2.2.2.2.1.2.1 == a1.2.2.2.2.2.2.2.2.2.2.2.1.2.1) && ((a0.2.2.2.2.2.2.2.2.2.2.2.1.2.2.1 == a1.2.2.2.2.2.2.2.2.2.2.2.1.2.2.1) && (((a0.2.2.2.2.2.2.2.2.2.2.2.1.2.2.2.1.1 == a1.2.2.2.2.2.2.2.2.2.2.2.1.2.2.2.1.1) && ((a0.2.2.2.2.2.2.2.2.2.2.2.1.2.2.2.1.2.1 == a1.2.2.2.2.2.2.2.2.2.2.2.1.2.2.2.1.2.1) && ((a0.2.2.2.2.2.2.2.2.2.2.2.1.2.2.2.1.2.2 == a1.2.2.2.2.2.2.2.2.2.2.2.1.2.2.2.1.2.2) && true))) && ((a0.2.2.2.2.2.2.2.2.2.2.2.1.2.2.2.2.1 == a1.2.2.2.2.2.2.2.2.2.2.2.1.2.2.2.2.1) && ((a0.2.2.2.2.2.2.2.2.2.2.2.1.2.2.2.2.2 == a1.2.2.2.2.2.2.2.2.2.2.2.1.2.2.2.2.2) && true))))) && true)) then some ((a0.2.2.2.2.2.2.2.2.2.2.2.2.1.1 == a1.2.2.2.2.2.2.2.2.2.2.2.2.1.1) && ((a0.2.2.2.2.2.2.2.2.2.2.2.2.1.2.1 == a1.2.2.2.2.2.2.2.2.2.2.2.2.1.2.1) && ((a0.2.2.2.2.2.2.2.2.2.2.2.2.1.2.2.1 == a1.2.2.2.2.2.2.2.2.2.2.2.2.1.2.2.1) && ((a0.2.2.2.2.2.2.2.2.2.2.2.2.1.2.2.2 == a1.2.2.2.2.2.2.2.2.2.2.2.2.1.2.2.2) && true)))) else some false else some false else some false else some false else some false else some false else some false else some false else some false else some false
noncomputable def oriellaw17_ScreenPages_loop1 (a2:List K86d9.T) (x19:Int × Int × Int × (List (List (Int × K72c5.T))) × (List (List (Int × K72c5.T))) × Int × Int × Bool × Int × Int × Int × Int × Int × Int × Int × Int × Int × Int × Int × Bool × Bool × Int × Int × Int × Int × Int × Bool × Bool × Int × Int × Int × Int × List Int):Option (((Int × Int × (List (List (Int × K72c5.T))) × (List (List (Int × K72c5.T))) × Int × Int × Bool × Int × Int × Int × Int × Int × Int × Int × Int × Int × Int × Int × Bool × Bool × Int × Int × Int × Int × Int × Bool × Bool × Int × Int × Int × Int × List Int) ⊕ (Int × Int × (List (List (Int × K72c5.T))) × (List (List (Int × K72c5.T))) × Int × Int × Bool × Int × Int × Int × Int × Int × Int × Int × Int × Int × Int × Int × Bool × Bool × Int × Int × Int × Int × Int × Bool × Bool × Int × Int × Int × Int × List Int)) ⊕ (Int × Int × Int × (List (List (Int × K72c5.T))) × (List (List (Int × K72c5.T))) × Int × Int × Bool × Int × Int × Int × Int × Int × Int × Int × Int × Int × Int × Int × Bool × Bool × Int × Int × Int × Int × Int × Bool × Bool × Int × Int × Int × Int × List Int)):=(bif decide (x19.1 < (a2.length:Int)) then some true else some false:Option (Bool)).bind fun x20=>bif x20 then ((getI a2 x19.1).bind fun x23=>bif x23.1 == 20 then (getI a2 x19.1).bind fun x24=>bif x24.2.1 == 128 then some true else some false else some false:Option (Bool)).bind fun x25=>bif x25 then some (.inl (.inl (x19.2.1,x19.2.2.1,x19.2.2.2.1,x19.2.2.2.2.1,x19.2.2.2.2.2.1,x19.2.2.2.2.2.2.1,x19.2.2.2.2.2.2.2.1,x19.2.2.2.2.2.2.2.2.1,x19.2.2.2.2.2.2.2.2.2.1,x19.2.2.2.2.2.2.2.2.2.2.1,x19.2.2.2.2.2.2.2.2.2.2.2.1,x19.2.2.2.2.2.2.2.2.2.2.2.2.1,x19.2.2.2.2.2.2.2.2.2.2.2.2.2.1,x19.2.2.2.2.2.2.2.2.2.2.2.2.2.2.1,x19.2.2.2.2.2.2.2.2.2.2.2.2.2.2.2.1,x19.2.2.2.2.2.2.2.2.2.2.2.2.2.2.2.2.1,x19.2.2.2.2.2.2.2.2.2.2.2.2.2.2.2.2.2.1,x19.2.2.2.2.2.2.2.2.2.2.2.2.2.2.2.2.2.2.1,x19.2.2.2.2.2.2.2.2.2.2.2.2.2.2.2.2.2.2.2.1,x19.2.2.2.2.2.2.2.2.2.2.2.2.2.2.2.2.2.2.2.2.1,x19.2.2.2.2.2.2.2.2.2.2.2.2.2.2.2.2.2.2.2.2.2.1,x19.2.2.2.2.2.2.2.2.2.2.2.2.2.2.2.2.2.2.2.2.2.2.1,x19.2.2.2.2.2.2.2.2.2.2.2.2.2.2.2.2.2.2.2.2.2.2.2.1,x19.2.2.2.2.2.2.2.2.2.2.2.2.2.2.2.2.2.2.2.2.2.2.2.2.1,x19.2.2.2.2.2.2.2.2.2.2.2.2.2.2.2.2.2.2.2.2.2.2.2.2.2.1,x19.2.2.2.2.2.2.2.2.2.2.2.2.2.2.2.2.2.2.2.2.2.2.2.2.2.2.1,x19.2.2.2.2.2.2.2.2.2.2.2.2.2.2.2.2.2.2.2.2.2.2.2.2.2.2.2.1,x19.2.2.2.2.2.2.2.2.2.2.2.2.2.2.2.2.2.2.2.2.2.2.2.2.2.2.2.2.1,x19.2.2.2.2.2.2.2.2.2.2.2.2.2.2.2.2.2.2.2.2.2.2.2.2.2.2.2.2.2.1,x19.2.2.2.2.2.2.2.2.2.2.2.2.2.2.2.2.2.2.2.2.2.2.2.2.2.2.2.2.2.2.1,x19.2.2.2.2.2.2.2.2.2.2.2.2.2.2.2.2.2.2.2.2.2.2.2.2.2.2.2.2.2.2.2.1,x19.2.2.2.2.2.2.2.2.2.2.2.2.2.2.2.2.2.2.2.2.2.2.2.2.2.2.2.2.2.2.2.2))) else (getI a2 x19.1).bind fun x26=>(screen_Do (x19.2.1,x19.2.2.1,x19.2.2.2.1,x19.2.2.2.2.1,x19.2.2.2.2.2.1,x19.2.2.2.2.2.2.1,x19.2.2.2.2.2.2.2.1,(x19.2.2.2.2.2.2.2.2.1,x19.2.2.2.2.2.2.2.2.2.1,x19.2.2.2.2.2.2.2.2.2.2.1),x19.2.2.2.2.2.2.2.2.2.2.2.1,x19.2.2.2.2.2.2.2.2.2.2.2.2.1,x19.2.2.2.2.2.2.2.2.2.2.2.2.2.1,((x19.2.2.2.2.2.2.2.2.2.2.2.2.2.2.1,x19.2.2.2.2.2.2.2.2.2.2.2.2.2.2.2.1,(x19.2.2.2.2.2.2.2.2.2.2.2.2.2.2.2.2.1,x19.2.2.2.2.2.2.2.2.2.2.2.2.2.2.2.2.2.1,x19.2.2.2.2.2.2.2.2.2.2.2.2.2.2.2.2.2.2.1),x19.2.2.2.2.2.2.2.2.2.2.2.2.2.2.2.2.2.2.2.1,x19.2.2.2.2.2.2.2.2.2.2.2.2.2.2.2.2.2.2.2.2.1),x19.2.2.2.2.2.2.2.2.2.2.2.2.2.2.2.2.2.2.2.2.2.1,x19.2.2.2.2.2.2.2.2.2.2.2.2.2.2.2.2.2.2.2.2.2.2.1,(x19.2.2.2.2.2.2.2.2.2.2.2.2.2.2.2.2.2.2.2.2.2.2.2.1,x19.2.2.2.2.2.2.2.2.2.2.2.2.2.2.2.2.2.2.2.2.2.2.2.2.1,x19.2.2.2.2.2.2.2.2.2.2.2.2.2.2.2.2.2.2.2.2.2.2.2.2.2.1),x19.2.2.2.2.2.2.2.2.2.2.2.2.2.2.2.2.2.2.2.2.2.2.2.2.2.2.1,x19.2.2.2.2.2.2.2.2.2.2.2.2.2.2.2.2.2.2.2.2.2.2.2.2.2.2.2.1),(x19.2.2.2.2.2.2.2.2.2.2.2.2.2.2.2.2.2.2.2.2.2.2.2.2.2.2.2.2.1,x19.2.2.2.2.2.2.2.2.2.2.2.2.2.2.2.2.2.2.2.2.2.2.2.2.2.2.2.2.2.1,x19.2.2.2.2.2.2.2.2.2.2.2.2.2.2.2.2.2.2.2.2.2.2.2.2.2.2.2.2.2.2.1,x19.2.2.2.2.2.2.2.2.2.2.2.2.2.2.2.2.2.2.2.2.2.2.2.2.2.2.2.2.2.2.2.1),x19.2.2.2.2.2.2.2.2.2.2.2.2.2.2.2.2.2.2.2.2.2.2.2.2.2.2.2.2.2.2.2.2) [x26]).bind fun x27=>some (.inr (IntKind.i64.wrap (x19.1 + 1),x27.1,x27.2.1,x27.2.2.1,x27.2.2.2.1,x27.2.2.2.2.1,x27.2.2.2.2.2.1,x27.2.2.2.2.2.2.1,x27.2.2.2.2.2.2.2.1.1,x27.2.2.2.2.2.2.2.1.2.1,x27.2.2.2.2.2.2.2.1.2.2,x27.2.2.2.2.2.2.2.2.1,x27.2.2.2.2.2.2.2.2.2.1,x27.2.2.2.2.2.2.2.2.2.2.1,x27.2.2.2.2.2.2.2.2.2.2.2.1.1.1,x27.2.2.2.2.2.2.2.2.2.2.2.1.1.2.1,x27.2.2.2.2.2.2.2.2.2.2.2.1.1.2.2.1.1,x27.2.2.2.2.2.2.2.2.2.2.2.1.1.2.2.1.2.1,x27.2.2.2.2.2.2.2.2.2.2.2.1.1.2.2.1.2.2,x27.2.2.2.2.2.2.2.2.2.2.2.1.1.2.2.2.1,x27.2.2.2.2.2.2.2.2.2.2.2.1.1.2.2.2.2,x27.2.2.2.2.2.2.2.2.2.2.2.1.2.1,x27.2.2.2.2.2.2.2.2.2.2.2.1.2.2.1,x27.2.2.2.2.2.2.2.2.2.2.2.1.2.2.2.1.1,x27.2.2.2.2.2.2.2.2.2.2.2.1.2.2.2.1.2.1,x27.2.2.2.2.2.2.2.2.2.2.2.1.2.2.2.1.2.2,x27.2.2.2.2.2.2.2.2.2.2.2.1.2.2.2.2.1,x27.2.2.2.2.2.2.2.2.2.2.2.1.2.2.2.2.2,x27.2.2.2.2.2.2.2.2.2.2.2.2.1.1,x27.2.2.2.2.2.2.2.2.2.2.2.2.1.2.1,x27.2.2.2.2.2.2.2.2.2.2.2.2.1.2.2.1,x27.2.2.2.2.2.2.2.2.2.2.2.2.1.2.2.2,x27.2.2.2.2.2.2.2.2.2.2.2.2.2)) else some (.inl (.inr (x19.2.1,x19.2.2.1,x19.2.2.2.1,x19.2.2.2.2.1,x19.2.2.2.2.2.1,x19.2.2.2.2.2.2.1,x19.2.2.2.2.2.2.2.1,x19.2.2.2.2.2.2.2.2.1,x19.2.2.2.2.2.2.2.2.2.1,x19.2.2.2.2.2.2.2.2.2.2.1,x19.2.2.2.2.2.2.2.2.2.2.2.1,x19.2.2.2.2.2.2.2.2.2.2.2.2.1,x19.2.2.2.2.2.2.2.2.2.2.2.2.2.1,x19.2.2.2.2.2.2.2.2.2.2.2.2.2.2.1,x19.2.2.2.2.2.2.2.2.2.2.2.2.2.2.2.1,x19.2.2.2.2.2.2.2.2.2.2.2.2.2.2.2.2.1,x19.2.2.2.2.2.2.2.2.2.2.2.2.2.2.2.2.2.1,x19.2.2.2.2.2.2.2.2.2.2.2.2.2.2.2.2.2.2.1,x19.2.2.2.2.2.2.2.2.2.2.2.2.2.2.2.2.2.2.2.1,x19.2.2.2.2.2.2.2.2.2.2.2.2.2.2.2.2.2.2.2.2.1,x19.2.2.2.2.2.2.2.2.2.2.2.2.2.2.2.2.2.2.2.2.2.1,x19.2.2.2.2.2.2.2.2.2.2.2.2.2.2.2.2.2.2.2.2.2.2.1,x19.2.2.2.2.2.2.2.2.2.2.2.2.2.2.2.2.2.2.2.2.2.2.2.1,x19.2.2.2.2.2.2.2.2.2.2.2.2.2.2.2.2.2.2.2.2.2.2.2.2.1,x19.2.2.2.2.2.2.2.2.2.2.2.2.2.2.2.2.2.2.2.2.2.2.2.2.2.1,x19.2.2.2.2.2.2.2.2.2.2.2.2.2.2.2.2.2.2.2.2.2.2.2.2.2.2.1,x19.2.2.2.2.2.2.2.2.2.2.2.2.2.2.2.2.2.2.2.2.2.2.2.2.2.2.2.1,x19.2.2.2.2.2.2.2.2.2.2.2.2.2.2.2.2.2.2.2.2.2.2.2.2.2.2.2.2.1,x19.2.2.2.2.2.2.2.2.2.2.2.2.2.2.2.2.2.2.2.2.2.2.2.2.2.2.2.2.2.1,x19.2.2.2.2.2.2.2.2.2.2.2.2.2.2.2.2.2.2.2.2.2.2.2.2.2.2.2.2.2.2.1,x19.2.2.2.2.2.2.2.2.2.2.2.2.2.2.2.2.2.2.2.2.2.2.2.2.2.2.2.2.2.2.2.1,x19.2.2.2.2.2.2.2.2.2.2.2.2.2.2.2.2.2.2.2.2.2.2.2.2.2.2.2.2.2.2.2.2)))
noncomputable def oriellaw17_ScreenPages_loop2 (a3:List K86d9.T) (x44:Int × Int × Int × (List (List (Int × K72c5.T))) × (List (List (Int × K72c5.T))) × Int × Int × Bool × Int × Int × Int × Int × Int × Int × Int × Int × Int × Int × Int × Bool × Bool × Int × Int × Int × Int × Int × Bool × Bool × Int × Int × Int × Int × List Int):Option (((Int × Int × (List (List (Int × K72c5.T))) × (List (List (Int × K72c5.T))) × Int × Int × Bool × Int × Int × Int × Int × Int × Int × Int × Int × Int × Int × Int × Bool × Bool × Int × Int × Int × Int × Int × Bool × Bool × Int × Int × Int × Int × List Int) ⊕ (Int × Int × (List (List (Int × K72c5.T))) × (List (List (Int × K72c5.T))) × Int × Int × Bool × Int × Int × Int × Int × Int × Int × Int × Int × Int × Int × Int × Bool × Bool × Int × Int × Int × Int × Int × Bool × Bool × Int × Int × Int × Int × List Int)) ⊕ (Int × Int × Int × (List (List (Int × K72c5.T))) × (List (List (Int × K72c5.T))) × Int × Int × Bool × Int × Int × Int × Int × Int × Int × Int × Int × Int × Int × Int × Bool × Bool × Int × Int × Int × Int × Int × Bool × Bool × Int × Int × Int × Int × List Int)):=(bif decide (x44.1 < (a3.length:Int)) then some true else some false:Option (Bool)).bind fun x45=>bif x45 then ((getI a3 x44.1).bind fun x50=>bif x50.1 == 27 then some true else (getI a3 x44.1).bind fun x51=>bif x51.1 == 24 then some true else (getI a3 x44.1).bind fun x52=>bif x52.1 == 20 then (getI a3 x44.1).bind fun x53=>bif x53.2.1 == 128 then some true else some false else some false:Option (Bool)).bind fun x54=>bif x54 then some (.inl (.inl (x44.2.1,x44.2.2.1,x44.2.2.2.1,x44.2.2.2.2.1,x44.2.2.2.2.2.1,x44.2.2.2.2.2.2.1,x44.2.2.2.2.2.2.2.1,x44.2.2.2.2.2.2.2.2.1,x44.2.2.2.2.2.2.2.2.2.1,x44.2.2.2.2.2.2.2.2.2.2.1,x44.2.2.2.2.2.2.2.2.2.2.2.1,x44.2.2.2.2.2.2.2.2.2.2.2.2.1,x44.2.2.2.2.2.2.2.2.2.2.2.2.2.1,x44.2.2.2.2.2.2.2.2.2.2.2.2.2.2.1,x44.2.2.2.2.2.2.2.2.2.2.2.2.2.2.2.1,x44.2.2.2.2.2.2.2.2.2.2.2.2.2.2.2.2.1,x44.2.2.2.2.2.2.2.2.2.2.2.2.2.2.2.2.2.1,x44.2.2.2.2.2.2.2.2.2.2.2.2.2.2.2.2.2.2.1,x44.2.2.2.2.2.2.2.2.2.2.2.2.2.2.2.2.2.2.2.1,x44.2.2.2.2.2.2.2.2.2.2.2.2.2.2.2.2.2.2.2.2.1,x44.2.2.2.2.2.2.2.2.2.2.2.2.2.2.2.2.2.2.2.2.2.1,x44.2.2.2.2.2.2.2.2.2.2.2.2.2.2.2.2.2.2.2.2.2.2.1,x44.2.2.2.2.2.2.2.2.2.2.2.2.2.2.2.2.2.2.2.2.2.2.2.1,x44.2.2.2.2.2.2.2.2.2.2.2.2.2.2.2.2.2.2.2.2.2.2.2.2.1,x44.2.2.2.2.2.2.2.2.2.2.2.2.2.2.2.2.2.2.2.2.2.2.2.2.2.1,x44.2.2.2.2.2.2.2.2.2.2.2.2.2.2.2.2.2.2.2.2.2.2.2.2.2.2.1,x44.2.2.2.2.2.2.2.2.2.2.2.2.2.2.2.2.2.2.2.2.2.2.2.2.2.2.2.1,x44.2.2.2.2.2.2.2.2.2.2.2.2.2.2.2.2.2.2.2.2.2.2.2.2.2.2.2.2.1,x44.2.2.2.2.2.2.2.2.2.2.2.2.2.2.2.2.2.2.2.2.2.2.2.2.2.2.2.2.2.1,x44.2.2.2.2.2.2.2.2.2.2.2.2.2.2.2.2.2.2.2.2.2.2.2.2.2.2.2.2.2.2.1,x44.2.2.2.2.2.2.2.2.2.2.2.2.2.2.2.2.2.2.2.2.2.2.2.2.2.2.2.2.2.2.2.1,x44.2.2.2.2.2.2.2.2.2.2.2.2.2.2.2.2.2.2.2.2.2.2.2.2.2.2.2.2.2.2.2.2))) else (getI a3 x44.1).bind fun x55=>(screen_Do (x44.2.1,x44.2.2.1,x44.2.2.2.1,x44.2.2.2.2.1,x44.2.2.2.2.2.1,x44.2.2.2.2.2.2.1,x44.2.2.2.2.2.2.2.1,(x44.2.2.2.2.2.2.2.2.1,x44.2.2.2.2.2.2.2.2.2.1,x44.2.2.2.2.2.2.2.2.2.2.1),x44.2.2.2.2.2.2.2.2.2.2.2.1,x44.2.2.2.2.2.2.2.2.2.2.2.2.1,x44.2.2.2.2.2.2.2.2.2.2.2.2.2.1,((x44.2.2.2.2.2.2.2.2.2.2.2.2.2.2.1,x44.2.2.2.2.2.2.2.2.2.2.2.2.2.2.2.1,(x44.2.2.2.2.2.2.2.2.2.2.2.2.2.2.2.2.1,x44.2.2.2.2.2.2.2.2.2.2.2.2.2.2.2.2.2.1,x44.2.2.2.2.2.2.2.2.2.2.2.2.2.2.2.2.2.2.1),x44.2.2.2.2.2.2.2.2.2.2.2.2.2.2.2.2.2.2.2.1,x44.2.2.2.2.2.2.2.2.2.2.2.2.2.2.2.2.2.2.2.2.1),x44.2.2.2.2.2.2.2.2.2.2.2.2.2.2.2.2.2.2.2.2.2.1,x44.2.2.2.2.2.2.2.2.2.2.2.2.2.2.2.2.2.2.2.2.2.2.1,(x44.2.2.2.2.2.2.2.2.2.2.2.2.2.2.2.2.2.2.2.2.2.2.2.1,x44.2.2.2.2.2.2.2.2.2.2.2.2.2.2.2.2.2.2.2.2.2.2.2.2.1,x44.2.2.2.2.2.2.2.2.2.2.2.2.2.2.2.2.2.2.2.2.2.2.2.2.2.1),x44.2.2.2.2.2.2.2.2.2.2.2.2.2.2.2.2.2.2.2.2.2.2.2.2.2.2.1,x44.2.2.2.2.2.2.2.2.2.2.2.2.2.2.2.2.2.2.2.2.2.2.2.2.2.2.2.1),(x44.2.2.2.2.2.2.2.2.2.2.2.2.2.2.2.2.2.2.2.2.2.2.2.2.2.2.2.2.1,x44.2.2.2.2.2.2.2.2.2.2.2.2.2.2.2.2.2.2.2.2.2.2.2.2.2.2.2.2.2.1,x44.2.2.2.2.2.2.2.2.2.2.2.2.2.2.2.2.2.2.2.2.2.2.2.2.2.2.2.2.2.2.1,x44.2.2.2.2.2.2.2.2.2.2.2.2.2.2.2.2.2.2.2.2.2.2.2.2.2.2.2.2.2.2.2.1),x44.2.2.2.2.2.2.2.2.2.2.2.2.2.2.2.2.2.2.2.2.2.2.2.2.2.2.2.2.2.2.2.2) [x55]).bind fun x56=>some (.inr (IntKind.i64.wrap (x44.1 + 1),x56.1,x56.2.1,x56.2.2.1,x56.2.2.2.1,x56.2.2.2.2.1,x56.2.2.2.2.2.1,x56.2.2.2.2.2.2.1,x56.2.2.2.2.2.2.2.1.1,x56.2.2.2.2.2.2.2.1.2.1,x56.2.2.2.2.2.2.2.1.2.2,x56.2.2.2.2.2.2.2.2.1,x56.2.2.2.2.2.2.2.2.2.1,x56.2.2.2.2.2.2.2.2.2.2.1,x56.2.2.2.2.2.2.2.2.2.2.2.1.1.1,x56.2.2.2.2.2.2.2.2.2.2.2.1.1.2.1,x56.2.2.2.2.2.2.2.2.2.2.2.1.1.2.2.1.1,x56.2.2.2.2.2.2.2.2.2.2.2.1.1.2.2.1.2.1,x56.2.2.2.2.2.2.2.2.2.2.2.1.1.2.2.1.2.2,x56.2.2.2.2.2.2.2.2.2.2.2.1.1.2.2.2.1,x56.2.2.2.2.2.2.2.2.2.2.2.1.1.2.2.2.2,x56.2.2.2.2.2.2.2.2.2.2.2.1.2.1,x56.2.2.2.2.2.2.2.2.2.2.2.1.2.2.1,x56.2.2.2.2.2.2.2.2.2.2.2.1.2.2.2.1.1,x56.2.2.2.2.2.2.2.2.2.2.2.1.2.2.2.1.2.1,x56.2.2.2.2.2.2.2.2.2.2.2.1.2.2.2.1.2.2,x56.2.2.2.2.2.2.2.2.2.2.2.1.2.2.2.2.1,x56.2.2.2.2.2.2.2.2.2.2.2.1.2.2.2.2.2,x56.2.2.2.2.2.2.2.2.2.2.2.2.1.1,x56.2.2.2.2.2.2.2.2.2.2.2.2.1.2.1,x56.2.2.2.2.2.2.2.2.2.2.2.2.1.2.2.1,x56.2.2.2.2.2.2.2.2.2.2.2.2.1.2.2.2,x56.2.2.2.2.2.2.2.2.2.2.2.2.2)) else some (.inl (.inr (x44.2.1,x44.2.2.1,x44.2.2.2.1,x44.2.2.2.2.1,x44.2.2.2.2.2.1,x44.2.2.2.2.2.2.1,x44.2.2.2.2.2.2.2.1,x44.2.2.2.2.2.2.2.2.1,x44.2.2.2.2.2.2.2.2.2.1,x44.2.2.2.2.2.2.2.2.2.2.1,x44.2.2.2.2.2.2.2.2.2.2.2.1,x44.2.2.2.2.2.2.2.2.2.2.2.2.1,x44.2.2.2.2.2.2.2.2.2.2.2.2.2.1,x44.2.2.2.2.2.2.2.2.2.2.2.2.2.2.1,x44.2.2.2.2.2.2.2.2.2.2.2.2.2.2.2.1,x44.2.2.2.2.2.2.2.2.2.2.2.2.2.2.2.2.1,x44.2.2.2.2.2.2.2.2.2.2.2.2.2.2.2.2.2.1,x44.2.2.2.2.2.2.2.2.2.2.2.2.2.2.2.2.2.2.1,x44.2.2.2.2.2.2.2.2.2.2.2.2.2.2.2.2.2.2.2.1,x44.2.2.2.2.2.2.2.2.2.2.2.2.2.2.2.2.2.2.2.2.1,x44.2.2.2.2.2.2.2.2.2.2.2.2.2.2.2.2.2.2.2.2.2.1,x44.2.2.2.2.2.2.2.2.2.2.2.2.2.2.2.2.2.2.2.2.2.2.1,x44.2.2.2.2.2.2.2.2.2.2.2.2.2.2.2.2.2.2.2.2.2.2.2.1,x44.2.2.2.2.2.2.2.2.2.2.2.2.2.2.2.2.2.2.2.2.2.2.2.2.1,x44.2.2.2.2.2.2.2.2.2.2.2.2.2.2.2.2.2.2.2.2.2.2.2.2.2.1,x44.2.2.2.2.2.2.2.2.2.2.2.2.2.2.2.2.2.2.2.2.2.2.2.2.2.2.1,x44.2.2.2.2.2.2.2.2.2.2.2.2.2.2.2.2.2.2.2.2.2.2.2.2.2.2.2.1,x44.2.2.2.2.2.2.2.2.2.2.2.2.2.2.2.2.2.2.2.2.2.2.2.2.2.2.2.2.1,x44.2.2.2.2.2.2.2.2.2.2.2.2.2.2.2.2.2.2.2.2.2.2.2.2.2.2.2.2.2.1,x44.2.2.2.2.2.2.2.2.2.2.2.2.2.2.2.2.2.2.2.2.2.2.2.2.2.2.2.2.2.2.1,x44.2.2.2.2.2.2.2.2.2.2.2.2.2.2.2.2.2.2.2.2.2.2.2.2.2.2.2.2.2.2.2.1,x44.2.2.2.2.2.2.2.2.2.2.2.2.2.2.2.2.2.2.2.2.2.2.2.2.2.2.2.2.2.2.2.2)))
noncomputable def oriellaw17_ScreenPages (a0:Int) (a1:Int) (a2:List K86d9.T) (a3:List K86d9.T):Option (Bool):=((oriellaw17_known).bind fun x2=>bif !x2 then some true else some false:Option (Bool)).bind fun x3=>bif x3 then some false else (bif decide (a0 < 1) then some true else bif decide (a0 > 20) then some true else bif decide (a1 < 1) then some true else bif decide (a1 > 20) then some true else (oriellaw17_great a0 a1 a2).bind fun x6=>bif x6 then some true else (oriellaw17_great a0 a1 a3).bind fun x7=>bif x7 then some true else bif decide ((a2.length:Int) > 60) then some true else bif decide ((a3.length:Int) > 60) then some true else some false:Option (Bool)).bind fun x8=>bif x8 then some true else (screen_New a0 a1).bind fun x9=>(bif x9.2 != 0 then some true else some false:Option (Bool)).bind fun x10=>bif x10 then some false else (loopO (oriellaw17_ScreenPages_loop1 a2) (0,x9.1.1,x9.1.2.1,x9.1.2.2.1,x9.1.2.2.2.1,x9.1.2.2.2.2.1,x9.1.2.2.2.2.2.1,x9.1.2.2.2.2.2.2.1,x9.1.2.2.2.2.2.2.2.1.1,x9.1.2.2.2.2.2.2.2.1.2.1,x9.1.2.2.2.2.2.2.2.1.2.2,x9.1.2.2.2.2.2.2.2.2.1,x9.1.2.2.2.2.2.2.2.2.2.1,x9.1.2.2.2.2.2.2.2.2.2.2.1,x9.1.2.2.2.2.2.2.2.2.2.2.2.1.1.1,x9.1.2.2.2.2.2.2.2.2.2.2.2.1.1.2.1,x9.1.2.2.2.2.2.2.2.2.2.2.2.1.1.2.2.1.1,x9.1.2.2.2.2.2.2.2.2.2.2.2.1.1.2.2.1.2.1,x9.1.2.2.2.2.2.2.2.2.2.2.2.1.1.2.2.1.2.2,x9.1.2.2.2.2.2.2.2.2.2.2.2.1.1.2.2.2.1,x9.1.2.2.2.2.2.2.2.2.2.2.2.1.1.2.2.2.2,x9.1.2.2.2.2.2.2.2.2.2.2.2.1.2.1,x9.1.2.2.2.2.2.2.2.2.2.2.2.1.2.2.1,x9.1.2.2.2.2.2.2.2.2.2.2.2.1.2.2.2.1.1,x9.1.2.2.2.2.2.2.2.2.2.2.2.1.2.2.2.1.2.1,x9.1.2.2.2.2.2.2.2.2.2.2.2.1.2.2.2.1.2.2,x9.1.2.2.2.2.2.2.2.2.2.2.2.1.2.2.2.2.1,x9.1.2.2.2.2.2.2.2.2.2.2.2.1.2.2.2.2.2,x9.1.2.2.2.2.2.2.2.2.2.2.2.2.1.1,x9.1.2.2.2.2.2.2.2.2.2.2.2.2.1.2.1,x9.1.2.2.2.2.2.2.2.2.2.2.2.2.1.2.2.1,x9.1.2.2.2.2.2.2.2.2.2.2.2.2.1.2.2.2,x9.1.2.2.2.2.2.2.2.2.2.2.2.2.2)).bind fun o=>match o with | .inl x28=>some true | .inr x29=>(screen_Do (x29.1,x29.2.1,x29.2.2.1,x29.2.2.2.1,x29.2.2.2.2.1,x29.2.2.2.2.2.1,x29.2.2.2.2.2.2.1,(x29.2.2.2.2.2.2.2.1,x29.2.2.2.2.2.2.2.2.1,x29.2.2.2.2.2.2.2.2.2.1),x29.2.2.2.2.2.2.2.2.2.2.1,x29.2.2.2.2.2.2.2.2.2.2.2.1,x29.2.2.2.2.2.2.2.2.2.2.2.2.1,((x29.2.2.2.2.2.2.2.2.2.2.2.2.2.1,x29.2.2.2.2.2.2.2.2.2.2.2.2.2.2.1,(x29.2.2.2.2.2.2.2.2.2.2.2.2.2.2.2.1,x29.2.2.2.2.2.2.2.2.2.2.2.2.2.2.2.2.1,x29.2.2.2.2.2.2.2.2.2.2.2.2.2.2.2.2.2.1),x29.2.2.2.2.2.2.2.2.2.2.2.2.2.2.2.2.2.2.1,x29.2.2.2.2.2.2.2.2.2.2.2.2.2.2.2.2.2.2.2.1),x29.2.2.2.2.2.2.2.2.2.2.2.2.2.2.2.2.2.2.2.2.1,x29.2.2.2.2.2.2.2.2.2.2.2.2.2.2.2.2.2.2.2.2.2.1,(x29.2.2.2.2.2.2.2.2.2.2.2.2.2.2.2.2.2.2.2.2.2.2.1,x29.2.2.2.2.2.2.2.2.2.2.2.2.2.2.2.2.2.2.2.2.2.2.2.1,x29.2.2.2.2.2.2.2.2.2.2.2.2.2.2.2.2.2.2.2.2.2.2.2.2.1),x29.2.2.2.2.2.2.2.2.2.2.2.2.2.2.2.2.2.2.2.2.2.2.2.2.2.1,x29.2.2.2.2.2.2.2.2.2.2.2.2.2.2.2.2.2.2.2.2.2.2.2.2.2.2.1),(x29.2.2.2.2.2.2.2.2.2.2.2.2.2.2.2.2.2.2.2.2.2.2.2.2.2.2.2.1,x29.2.2.2.2.2.2.2.2.2.2.2.2.2.2.2.2.2.2.2.2.2.2.2.2.2.2.2.2.1,x29.2.2.2.2.2.2.2.2.2.2.2.2.2.2.2.2.2.2.2.2.2.2.2.2.2.2.2.2.2.1,x29.2.2.2.2.2.2.2.2.2.2.2.2.2.2.2.2.2.2.2.2.2.2.2.2.2.2.2.2.2.2.1),x29.2.2.2.2.2.2.2.2.2.2.2.2.2.2.2.2.2.2.2.2.2.2.2.2.2.2.2.2.2.2.2) [(20,128,1,0,[],[])]).bind fun x30=>(bif x30.2.2.2.2.2.2.2.2.2.2.1 != (IntKind.i64.wrap (x29.2.2.2.2.2.2.2.2.2.2.2.2.1 + 128)) then some true else bif (x30.2.2.2.1.length:Int) != x29.1 then some true else some false:Option (Bool)).bind fun x31=>bif x31 then some false else (loopO (oriellaw17_ScreenPages_loop2 a3) (0,x30.1,x30.2.1,x30.2.2.1,x30.2.2.2.1,x30.2.2.2.2.1,x30.2.2.2.2.2.1,x30.2.2.2.2.2.2.1,x30.2.2.2.2.2.2.2.1.1,x30.2.2.2.2.2.2.2.1.2.1,x30.2.2.2.2.2.2.2.1.2.2,x30.2.2.2.2.2.2.2.2.1,x30.2.2.2.2.2.2.2.2.2.1,x30.2.2.2.2.2.2.2.2.2.2.1,x30.2.2.2.2.2.2.2.2.2.2.2.1.1.1,x30.2.2.2.2.2.2.2.2.2.2.2.1.1.2.1,x30.2.2.2.2.2.2.2.2.2.2.2.1.1.2.2.1.1,x30.2.2.2.2.2.2.2.2.2.2.2.1.1.2.2.1.2.1,x30.2.2.2.2.2.2.2.2.2.2.2.1.1.2.2.1.2.2,x30.2.2.2.2.2.2.2.2.2.2.2.1.1.2.2.2.1,x30.2.2.2.2.2.2.2.2.2.2.2.1.1.2.2.2.2,x30.2.2.2.2.2.2.2.2.2.2.2.1.2.1,x30.2.2.2.2.2.2.2.2.2.2.2.1.2.2.1,x30.2.2.2.2.2.2.2.2.2.2.2.1.2.2.2.1.1,x30.2.2.2.2.2.2.2.2.2.2.2.1.2.2.2.1.2.1,x30.2.2.2.2.2.2.2.2.2.2.2.1.2.2.2.1.2.2,x30.2.2.2.2.2.2.2.2.2.2.2.1.2.2.2.2.1,x30.2.2.2.2.2.2.2.2.2.2.2.1.2.2.2.2.2,x30.2.2.2.2.2.2.2.2.2.2.2.2.1.1,x30.2.2.2.2.2.2.2.2.2.2.2.2.1.2.1,x30.2.2.2.2.2.2.2.2.2.2.2.2.1.2.2.1,x30.2.2.2.2.2.2.2.2.2.2.2.2.1.2.2.2,x30.2.2.2.2.2.2.2.2.2.2.2.2.2)).bind fun o=>match o with | .inl x57=>some true | .inr x58=>(screen_Do (x58.1,x58.2.1,x58.2.2.1,x58.2.2.2.1,x58.2.2.2.2.1,x58.2.2.2.2.2.1,x58.2.2.2.2.2.2.1,(x58.2.2.2.2.2.2.2.1,x58.2.2.2.2.2.2.2.2.1,x58.2.2.2.2.2.2.2.2.2.1),x58.2.2.2.2.2.2.2.2.2.2.1,x58.2.2.2.2.2.2.2.2.2.2.2.1,x58.2.2.2.2.2.2.2.2.2.2.2.2.1,((x58.2.2.2.2.2.2.2.2.2.2.2.2.2.1,x58.2.2.2.2.2.2.2.2.2.2.2.2.2.2.1,(x58.2.2.2.2.2.2.2.2.2.2.2.2.2.2.2.1,x58.2.2.2.2.2.2.2.2.2.2.2.2.2.2.2.2.1,x58.2.2.2.2.2.2.2.2.2.2.2.2.2.2.2.2.2.1),x58.2.2.2.2.2.2.2.2.2.2.2.2.2.2.2.2.2.2.1,x58.2.2.2.2.2.2.2.2.2.2.2.2.2.2.2.2.2.2.2.1),x58.2.2.2.2.2.2.2.2.2.2.2.2.2.2.2.2.2.2.2.2.1,x58.2.2.2.2.2.2.2.2.2.2.2.2.2.2.2.2.2.2.2.2.2.1,(x58.2.2.2.2.2.2.2.2.2.2.2.2.2.2.2.2.2.2.2.2.2.2.1,x58.2.2.2.2.2.2.2.2.2.2.2.2.2.2.2.2.2.2.2.2.2.2.2.1,x58.2.2.2.2.2.2.2.2.2.2.2.2.2.2.2.2.2.2.2.2.2.2.2.2.1),x58.2.2.2.2.2.2.2.2.2.2.2.2.2.2.2.2.2.2.2.2.2.2.2.2.2.1,x58.2.2.2.2.2.2.2.2.2.2.2.2.2.2.2.2.2.2.2.2.2.2.2.2.2.2.1),(x58.2.2.2.2.2.2.2.2.2.2.2.2.2.2.2.2.2.2.2.2.2.2.2.2.2.2.2.1,x58.2.2.2.2.2.2.2.2.2.2.2.2.2.2.2.2.2.2.2.2.2.2.2.2.2.2.2.2.1,x58.2.2.2.2.2.2.2.2.2.2.2.2.2.2.2.2.2.2.2.2.2.2.2.2.2.2.2.2.2.1,x58.2.2.2.2.2.2.2.2.2.2.2.2.2.2.2.2.2.2.2.2.2.2.2.2.2.2.2.2.2.2.1),x58.2.2.2.2.2.2.2.2.2.2.2.2.2.2.2.2.2.2.2.2.2.2.2.2.2.2.2.2.2.2.2) [(20,128,0,0,[],[])]).bind fun x59=>bif (x59.2.2.2.2.2.2.1 == x29.2.2.2.2.2.2.1) then bif (ibits .and .i64 x59.2.2.2.2.2.2.2.2.2.2.1 128) == 0 then bif (ibits .and .i64 x59.2.2.2.2.2.2.2.2.2.2.1 2) == (ibits .and .i64 x29.2.2.2.2.2.2.2.2.2.2.2.2.1 2) then (screen_Same (x29.1,x29.2.1,x29.2.2.1,x29.2.2.2.1,x29.2.2.2.2.1,x29.2.2.2.2.2.1,false,(x29.2.2.2.2.2.2.2.1,x29.2.2.2.2.2.2.2.2.1,x29.2.2.2.2.2.2.2.2.2.1),x29.2.2.2.2.2.2.2.2.2.2.1,x29.2.2.2.2.2.2.2.2.2.2.2.1,ibits .or .i64 (ibits .andNot .i64 x29.2.2.2.2.2.2.2.2.2.2.2.2.1 2) (ibits .and .i64 x59.2.2.2.2.2.2.2.2.2.2.1 2),((x29.2.2.2.2.2.2.2.2.2.2.2.2.2.1,x29.2.2.2.2.2.2.2.2.2.2.2.2.2.2.1,(x29.2.2.2.2.2.2.2.2.2.2.2.2.2.2.2.1,x29.2.2.2.2.2.2.2.2.2.2.2.2.2.2.2.2.1,x29.2.2.2.2.2.2.2.2.2.2.2.2.2.2.2.2.2.1),x29.2.2.2.2.2.2.2.2.2.2.2.2.2.2.2.2.2.2.1,x29.2.2.2.2.2.2.2.2.2.2.2.2.2.2.2.2.2.2.2.1),x29.2.2.2.2.2.2.2.2.2.2.2.2.2.2.2.2.2.2.2.2.1,x29.2.2.2.2.2.2.2.2.2.2.2.2.2.2.2.2.2.2.2.2.2.1,(x29.2.2.2.2.2.2.2.2.2.2.2.2.2.2.2.2.2.2.2.2.2.2.1,x29.2.2.2.2.2.2.2.2.2.2.2.2.2.2.2.2.2.2.2.2.2.2.2.1,x29.2.2.2.2.2.2.2.2.2.2.2.2.2.2.2.2.2.2.2.2.2.2.2.2.1),x29.2.2.2.2.2.2.2.2.2.2.2.2.2.2.2.2.2.2.2.2.2.2.2.2.2.1,x29.2.2.2.2.2.2.2.2.2.2.2.2.2.2.2.2.2.2.2.2.2.2.2.2.2.2.1),(x29.2.2.2.2.2.2.2.2.2.2.2.2.2.2.2.2.2.2.2.2.2.2.2.2.2.2.2.1,x29.2.2.2.2.2.2.2.2.2.2.2.2.2.2.2.2.2.2.2.2.2.2.2.2.2.2.2.2.1,x29.2.2.2.2.2.2.2.2.2.2.2.2.2.2.2.2.2.2.2.2.2.2.2.2.2.2.2.2.2.1,x29.2.2.2.2.2.2.2.2.2.2.2.2.2.2.2.2.2.2.2.2.2.2.2.2.2.2.2.2.2.2.1),x29.2.2.2.2.2.2.2.2.2.2.2.2.2.2.2.2.2.2.2.2.2.2.2.2.2.2.2.2.2.2.2) (x59.1,x59.2.1,x59.2.2.1,x59.2.2.2.1,x59.2.2.2.2.1,x59.2.2.2.2.2.1,false,x59.2.2.2.2.2.2.2.1,x29.2.2.2.2.2.2.2.2.2.2.1,x29.2.2.2.2.2.2.2.2.2.2.2.1,ibits .or .i64 (ibits .andNot .i64 x29.2.2.2.2.2.2.2.2.2.2.2.2.1 2) (ibits .and .i64 x59.2.2.2.2.2.2.2.2.2.2.1 2),((x29.2.2.2.2.2.2.2.2.2.2.2.2.2.1,x29.2.2.2.2.2.2.2.2.2.2.2.2.2.2.1,(x29.2.2.2.2.2.2.2.2.2.2.2.2.2.2.2.1,x29.2.2.2.2.2.2.2.2.2.2.2.2.2.2.2.2.1,x29.2.2.2.2.2.2.2.2.2.2.2.2.2.2.2.2.2.1),x29.2.2.2.2.2.2.2.2.2.2.2.2.2.2.2.2.2.2.1,x29.2.2.2.2.2.2.2.2.2.2.2.2.2.2.2.2.2.2.2.1),x29.2.2.2.2.2.2.2.2.2.2.2.2.2.2.2.2.2.2.2.2.1,x29.2.2.2.2.2.2.2.2.2.2.2.2.2.2.2.2.2.2.2.2.2.1,(x29.2.2.2.2.2.2.2.2.2.2.2.2.2.2.2.2.2.2.2.2.2.2.1,x29.2.2.2.2.2.2.2.2.2.2.2.2.2.2.2.2.2.2.2.2.2.2.2.1,x29.2.2.2.2.2.2.2.2.2.2.2.2.2.2.2.2.2.2.2.2.2.2.2.2.1),x29.2.2.2.2.2.2.2.2.2.2.2.2.2.2.2.2.2.2.2.2.2.2.2.2.2.1,x29.2.2.2.2.2.2.2.2.2.2.2.2.2.2.2.2.2.2.2.2.2.2.2.2.2.2.1),(x29.2.2.2.2.2.2.2.2.2.2.2.2.2.2.2.2.2.2.2.2.2.2.2.2.2.2.2.1,x29.2.2.2.2.2.2.2.2.2.2.2.2.2.2.2.2.2.2.2.2.2.2.2.2.2.2.2.2.1,x29.2.2.2.2.2.2.2.2.2.2.2.2.2.2.2.2.2.2.2.2.2.2.2.2.2.2.2.2.2.1,x29.2.2.2.2.2.2.2.2.2.2.2.2.2.2.2.2.2.2.2.2.2.2.2.2.2.2.2.2.2.2.1),x29.2.2.2.2.2.2.2.2.2.2.2.2.2.2.2.2.2.2.2.2.2.2.2.2.2.2.2.2.2.2.2)).bind fun x60=>some x60 else some false else some false else some false
end Go.SH
namespace Go.SH
theorem w64 (x:Int):IntKind.i64.wrap x = (x + 9223372036854775808) % 18446744073709551616 - 9223372036854775808:=by
  simp [IntKind.wrap,IntKind.signed,IntKind.bits]
  omega
theorem w64id {x:Int} (h:-9223372036854775808 ≤ x ∧ x ≤ 9223372036854775807):IntKind.i64.wrap x = x:=by rw [w64];omega
theorem dec_t {p:Prop} [Decidable p] (h:p):decide p = true:=by simp [h]
theorem dec_f {p:Prop} [Decidable p] (h:¬ p):decide p = false:=by simp [h]
theorem getI_nat {α:Type} (l:List α) (i:Nat):getI l (i:Int) = l[i]?:=by simp [getI]
abbrev PenT:=Int × Int × Int
abbrev CellT:=Int × (Int × Int) × Int × Int × Int × Int
def mayPen (p:PenT):Bool:=decide (0 ≤ p.1 ∧ p.1 ≤ 255) && (decide (0 ≤ p.2.1 ∧ p.2.1 ≤ 256) && decide (0 ≤ p.2.2 ∧ p.2.2 ≤ 256))
theorem pen_May_1_eq (a m:Int):pen_May_1 a m = some (decide (0 ≤ a ∧ a ≤ m)):=by
  unfold pen_May_1
  by_cases h:0 ≤ a
  · rw [dec_t (by omega:a ≥ 0)];simp [h]
  · rw [dec_f (by omega:¬ a ≥ 0)];simp [h]
theorem pen_May_eq (p:PenT):pen_May p = some (mayPen p):=by
  unfold pen_May mayPen
  simp only [pen_May_1_eq,Option.bind_some]
  cases decide (0 ≤ p.1 ∧ p.1 ≤ 255) <;> cases decide (0 ≤ p.2.1 ∧ p.2.1 ≤ 256) <;> rfl
def colsBad (c:Int):Bool:=decide (c < 32) || (decide (127 ≤ c) && decide (c < 160)) || (decide (55296 ≤ c) && decide (c ≤ 57343)) || decide (1114111 < c)
def colsOf (c:Int):Int:=bif colsBad c then -1 else match tab_bounds.find? (fun e=>decide (c ≤ e.2.1)) with
  | some e=>bif decide (e.1 ≤ c) then e.2.2 else 1
  | none=>1
theorem find_first {α:Type} {q:α → Bool}:∀ {l:List α} {k:Nat},(∀ i x,i < k → l[i]? = some x → q x = false) → (∀ x,l[k]? = some x → q x = true) → l.find? q = l[k]?
  | [],k,_,_=>by simp
  | x :: l,0,_,h2=>by simp [List.find?,h2 x rfl]
  | x :: l,k + 1,h1,h2=>by
    rw [List.find?,h1 0 x (by omega) rfl]
    exact find_first (l:=l) (k:=k) (fun i y hi hy=>h1 (i + 1) y (by omega) (by simpa using hy)) fun y hy=>h2 y (by simpa using hy)
def tabP (c:Int) (i:Nat):Bool:=match tab_bounds[i]? with
  | some e=>decide (c ≤ e.2.1)
  | none=>true
theorem tab_mono:∀ i j:_root_.Fin 22,i.val ≤ j.val → (match tab_bounds[i.val]?,tab_bounds[j.val]? with | some a,some b=>decide (a.2.1 ≤ b.2.1) | _,_=>false) = true:=by decide +kernel
theorem tabP_mono {c:Int} {i j:Nat} (hj:j < 22) (hij:i ≤ j) (h:tabP c i = true):tabP c j = true:=by
  have hm:=tab_mono ⟨i,by omega⟩ ⟨j,hj⟩ hij
  unfold tabP at h ⊢
  simp only at hm
  split at hm
  · rename_i a b ha hb
    rw [ha] at h;rw [hb]
    simp at hm h ⊢
    omega
  · simp at hm
theorem tab_len:tab_bounds.length = 22:=by decide +kernel
theorem half (lo hi:Nat) (h:lo + hi < 100):IntKind.i64.wrap (Int.fdiv (IntKind.u64.wrap (IntKind.i64.wrap ((lo:Int) + (hi:Int)))) (2 ^ 1)) = (((lo + hi) / 2:Nat):Int):=by
  have h1:IntKind.i64.wrap ((lo:Int) + (hi:Int)) = ((lo + hi:Nat):Int):=by rw [w64];omega
  rw [h1]
  have h2:IntKind.u64.wrap ((lo + hi:Nat):Int) = ((lo + hi:Nat):Int):=by simp [IntKind.wrap,IntKind.signed,IntKind.bits];omega
  rw [h2,Int.fdiv_eq_ediv_of_nonneg _ (by decide),w64]
  omega
theorem search_step_in {c:Int} {lo hi:Nat} (h:lo < hi) (hh:hi ≤ 22):sort_Search_4a9_loop1 c ((lo:Int),(hi:Int)) = some (.inr (bif tabP c ((lo + hi) / 2) then ((lo:Int),(((lo + hi) / 2:Nat):Int)) else ((((lo + hi) / 2 + 1:Nat):Int),(hi:Int)))):=by
  unfold sort_Search_4a9_loop1 cols_Of_1_030
  rw [dec_t (by simpa using h:(((lo:Int),(hi:Int)):Int × Int).1 < (((lo:Int),(hi:Int)):Int × Int).2)]
  simp only [half lo hi (by omega),getI_nat,tabP,cond_true,Option.bind_some]
  have hl:(lo + hi) / 2 < tab_bounds.length:=by rw [tab_len];omega
  rw [List.getElem?_eq_getElem hl]
  simp only [Option.bind_some,ge_iff_le]
  by_cases hp:c ≤ (tab_bounds[(lo + hi) / 2]).2.1
  · simp [hp]
  · simp only [dec_f hp,Bool.not_false,cond_true,Option.bind_some,cond_false]
    rw [w64id (by omega)];rfl
theorem search_step_end {c:Int} {lo:Nat}:sort_Search_4a9_loop1 c ((lo:Int),(lo:Int)) = some (.inl (lo:Int)):=by
  unfold sort_Search_4a9_loop1
  simp
theorem search_loop {c:Int}:∀ (m lo hi:Nat),hi - lo ≤ m → lo ≤ hi → hi ≤ 22 → (∀ i,i < lo → tabP c i = false) → (∀ i,hi ≤ i → i < 22 → tabP c i = true) →
    ∃ k:Nat,k ≤ 22 ∧ loopO (sort_Search_4a9_loop1 c) ((lo:Int),(hi:Int)) = some (k:Int) ∧ (∀ i,i < k → tabP c i = false) ∧ ∀ i,k ≤ i → i < 22 → tabP c i = true
  | m,lo,hi,hm,h1,h2,h3,h4=>by
    by_cases he:lo = hi
    · subst he
      exact ⟨lo,h2,by rw [loopO_eq,search_step_end],h3,h4⟩
    · cases m with
      | zero=>omega
      | succ m=>
        rw [loopO_eq,search_step_in (by omega) h2]
        cases hp:tabP c ((lo + hi) / 2) with
        | true=>exact search_loop m lo ((lo + hi) / 2) (by omega) (by omega) (by omega) h3 fun i hi1 hi2=>tabP_mono hi2 hi1 hp
        | false=>
          refine search_loop m ((lo + hi) / 2 + 1) hi (by omega) (by omega) h2 (fun i hi1=>?_) h4
          cases hq:tabP c i with
          | false=>rfl
          | true=>rw [tabP_mono (by omega) (by omega:i ≤ (lo + hi) / 2) hq] at hp;simp at hp
theorem cols_Of_eq (c:Int):cols_Of c = some (colsOf c):=by
  unfold cols_Of colsOf
  have hb:∀ (x:Option Int),(bif decide (c < 32) then some true else bif decide (c ≥ 127) then bif decide (c < 160) then some true else bif decide (c ≥ 55296) then bif decide (c ≤ 57343) then some true else bif decide (c > 1114111) then some true else some false else bif decide (c > 1114111) then some true else some false
      else bif decide (c ≥ 55296) then bif decide (c ≤ 57343) then some true else bif decide (c > 1114111) then some true else some false else bif decide (c > 1114111) then some true else some false:Option Bool) = some (colsBad c):=by
    intro _
    unfold colsBad
    simp only [ge_iff_le,gt_iff_lt]
    cases decide (c < 32) <;> cases decide (127 ≤ c) <;> cases decide (c < 160) <;> cases decide (55296 ≤ c) <;> cases decide (c ≤ 57343) <;> cases decide (1114111 < c) <;> rfl
  rw [hb none]
  simp only [Option.bind_some]
  cases colsBad c with
  | true=>rfl
  | false=>
    simp only [cond_false]
    unfold sort_Search_4a9
    obtain ⟨k,k1,k2,k3,k4⟩:=search_loop (c:=c) 22 0 22 (by omega) (by omega) (by omega) (by omega) (by omega)
    have k2':loopO (sort_Search_4a9_loop1 c) (0,22) = some (k:Int):=k2
    rw [k2']
    simp only [Option.bind_some]
    have hf:tab_bounds.find? (fun e=>decide (c ≤ e.2.1)) = tab_bounds[k]?:=find_first (fun i x hi hx=>by
        have:=k3 i hi;unfold tabP at this;rw [hx] at this;exact this) fun x hx=>by
        have:=k4 k (Nat.le_refl _) (by have:=(List.getElem?_eq_some_iff.1 hx).1;rw [tab_len] at this;exact this)
        unfold tabP at this;rw [hx] at this;exact this
    rw [hf]
    by_cases hk:k < 22
    · rw [dec_t (by omega:(k:Int) < 22)]
      have hl:k < tab_bounds.length:=by rw [tab_len];exact hk
      simp only [cond_true,getI_nat,List.getElem?_eq_getElem hl,Option.bind_some]
      have hw:∀ i:_root_.Fin 22,(match tab_bounds[i.val]? with | some e=>decide (0 ≤ e.2.2 ∧ e.2.2 ≤ 2) | none=>false) = true:=by decide +kernel
      have hw':=hw ⟨k,hk⟩
      simp only [List.getElem?_eq_getElem hl,decide_eq_true_eq] at hw'
      cases decide ((tab_bounds[k]).1 ≤ c) with
      | true=>simp only [cond_true,Option.bind_some];rw [w64id (by omega)]
      | false=>rfl
    · rw [dec_f (by omega:¬ (k:Int) < 22),List.getElem?_eq_none (by rw [tab_len];omega)]
      rfl
end Go.SH
namespace Go.SH
def firstAt {R:Type} (P:Nat → Option R):Nat → Nat → Option R
  | _,0=>none
  | i,m + 1=>match P i with
    | some r=>some r
    | none=>firstAt P (i + 1) m
def stepO {R:Type} (o:Option R) (i:Nat):R ⊕ Int:=match o with
  | some r=>.inl r
  | none=>.inr ((i + 1:Nat):Int)
def badAt {α:Type} (f:α → Bool) (l:List α) (i:Nat):Bool:=match l[i]? with
  | some x=>f x
  | none=>false
def idxOf (bad:Nat → Bool) (i:Nat):Option (Int ⊕ Unit):=bif bad i then some (.inl (i:Int)) else none
theorem loop_for {R:Type} {step:Int → Option (R ⊕ Int)} {n:Nat} {P:Nat → Option R} {e:R} (hin:∀ i:Nat,i < n → step (i:Int) = some (stepO (P i) i)) (hend:step (n:Int) = some (.inl e)) :
    ∀ (m i:Nat),i + m = n → loopO step (i:Int) = some ((firstAt P i m).getD e)
  | 0,i,h=>by
    have:i = n:=by omega
    subst this
    rw [loopO_eq,hend];rfl
  | m + 1,i,h=>by
    rw [loopO_eq,hin i (by omega)]
    unfold firstAt
    cases hp:P i with
    | some r=>rfl
    | none=>exact loop_for hin hend m (i + 1) (by omega)
/-- A loop that asks the same of each index. -/
theorem loop_all {R:Type} {step:Int → Option (R ⊕ Int)} {n:Nat} {ok:Nat → Bool} {e b:R} (hin:∀ i:Nat,i < n → step (i:Int) = some (bif ok i then .inr ((i + 1:Nat):Int) else .inl b)) (hend:step (n:Int) = some (.inl e)) :
    loopO step 0 = some (bif (List.range n).all ok then e else b):=by
  have h:=loop_for (step:=step) (n:=n) (P:=fun i=>bif ok i then none else some b) (e:=e) (fun i hi=>by rw [hin i hi];cases ok i <;> rfl) hend n 0 (by omega)
  rw [show ((0:Nat):Int) = 0 from rfl] at h
  rw [h]
  congr 1
  have key:∀ (m i:Nat),(firstAt (fun i=>bif ok i then none else some b) i m).getD e = bif (List.range' i m).all ok then e else b:=by
    intro m
    induction m with
    | zero=>intro i;rfl
    | succ m ih=>
      intro i
      unfold firstAt
      rw [List.range'_succ,List.all_cons]
      cases ok i with
      | true=>simp only [cond_true,Bool.true_and];exact ih (i + 1)
      | false=>rfl
  rw [key n 0,List.range_eq_range']
def markedM (m:Int × Int):Bool:=bif m.1 == 0 then m.2 == 0 else (colsOf m.1 == 0) && ((m.2 == 0) || (colsOf m.2 == 0))
theorem line_marked_eq (m:Int × Int):line_marked m = some (markedM m):=by
  unfold line_marked markedM
  simp only [cols_Of_eq,Option.bind_some]
  cases (m.1 == 0) <;> cases (colsOf m.1 == 0) <;> cases (m.2 == 0) <;> simp
def mayCell (c:CellT):Bool:=bif (c.2.2.1 == 0) || (c.2.2.1 == 1) then mayPen c.2.2.2 && ((colsOf c.1 == c.2.2.1 + 1) && markedM c.2.1)
  else (c.2.2.1 == 2) && (mayPen c.2.2.2 && ((c.1 == 0) && ((c.2.1.1 == 0) && (c.2.1.2 == 0))))
theorem line_may_eq (c:CellT):line_may c = some (mayCell c):=by
  unfold line_may mayCell
  simp only [pen_May_eq,cols_Of_eq,line_marked_eq,Option.bind_some,beq_self_eq_true,Bool.and_true,Bool.true_and]
  by_cases h0:c.2.2.1 = 0
  · rw [h0]
    simp only [beq_self_eq_true,cond_true,Option.bind_some,Bool.true_or]
    rw [w64id (by omega)]
    cases mayPen c.2.2.2 <;> cases (colsOf c.1 == 0 + 1) <;> rfl
  · have e0:(c.2.2.1 == 0) = false:=by simpa using h0
    rw [e0]
    by_cases h1:c.2.2.1 = 1
    · rw [h1]
      simp only [cond_false,Option.bind_some,beq_self_eq_true,cond_true,Bool.or_true]
      rw [w64id (by omega)]
      cases mayPen c.2.2.2 <;> cases (colsOf c.1 == 1 + 1) <;> rfl
    · have e1:(c.2.2.1 == 1) = false:=by simpa using h1
      rw [e1]
      simp only [cond_false,Option.bind_some,Bool.or_self]
      cases (c.2.2.1 == 2) <;> cases mayPen c.2.2.2 <;> simp
/-- What is asked of the i-th cell of a line. -/
def okAt (l:List CellT) (i:Nat):Bool:=match l[i]? with
  | some c=>
    let left:=decide (0 < i) && match l[i - 1]? with | some d=>d.2.2.1 == 1 | none=>false
    mayCell c && ((left == (c.2.2.1 == 2)) && ((!left || match l[i - 1]? with | some d=>d.2.2.2 == c.2.2.2 | none=>false) && !((c.2.2.1 == 1) && (i + 1 == l.length))))
  | none=>true
def mayLine (l:List CellT):Bool:=decide (l.length ≤ 1000) && (List.range l.length).all (okAt l)
theorem pen_beq (p q:PenT):((p.1 == q.1) && ((p.2.1 == q.2.1) && ((p.2.2 == q.2.2) && true))) = (p == q):=by
  obtain ⟨a,b,c⟩:=p;obtain ⟨a',b',c'⟩:=q
  simp only [Bool.and_true]
  rfl
theorem line_May_step {l:List CellT} {i:Nat} (h:i < l.length) (hb:l.length ≤ 1000):line_May_loop1 l (i:Int) = some (bif okAt l i then .inr ((i + 1:Nat):Int) else .inl (.inl ())):=by
  unfold line_May_loop1 okAt
  rw [dec_t (by omega:(i:Int) < (l.length:Int))]
  simp only [Option.bind_some,cond_true,getI_nat,List.getElem?_eq_getElem h,line_may_eq]
  have hw:IntKind.i64.wrap ((i:Int) + 1) = ((i + 1:Nat):Int):=by rw [w64id (by omega)];rfl
  have hl:(decide ((i:Int) = IntKind.i64.wrap ((l.length:Int) - 1))) = (i + 1 == l.length):=by
    rw [w64id (by omega),Bool.eq_iff_iff]
    simp only [decide_eq_true_eq,beq_iff_eq]
    omega
  have hl':((i:Int) == IntKind.i64.wrap ((l.length:Int) - 1)) = (i + 1 == l.length):=by rw [← hl];rfl
  rw [hw,hl']
  by_cases h0:0 < i
  · rw [dec_t (by omega:(i:Int) > 0),dec_t h0]
    have hp:IntKind.i64.wrap ((i:Int) - 1) = ((i - 1:Nat):Int):=by rw [w64id (by omega)];omega
    have hi:i - 1 < l.length:=by omega
    simp only [cond_true,hp,getI_nat,List.getElem?_eq_getElem hi,Option.bind_some,Bool.true_and,pen_beq]
    cases mayCell l[i] <;> cases (l[i - 1].2.2.1 == 1) <;> cases (l[i].2.2.1 == 2) <;> cases (l[i - 1].2.2.2 == l[i].2.2.2) <;> cases (l[i].2.2.1 == 1) <;> cases (i + 1 == l.length) <;> rfl
  · rw [dec_f (by omega:¬ (i:Int) > 0),dec_f h0]
    simp only [cond_false,Option.bind_some,Bool.false_and,Bool.not_false,Bool.true_or,Bool.true_and]
    cases mayCell l[i] <;> cases (l[i].2.2.1 == 2) <;> cases (l[i].2.2.1 == 1) <;> cases (i + 1 == l.length) <;> rfl
theorem line_May_end {l:List CellT}:line_May_loop1 l (l.length:Int) = some (.inl (.inr ())):=by simp [line_May_loop1]
theorem line_May_eq (l:List CellT):line_May l = some (mayLine l):=by
  unfold line_May mayLine
  by_cases hb:l.length ≤ 1000
  · rw [dec_f (by omega:¬ (l.length:Int) > 1000),dec_t hb]
    simp only [cond_false,Option.bind_some,Bool.true_and]
    rw [loop_all (n:=l.length) (ok:=okAt l) (fun i hi=>line_May_step hi hb) line_May_end]
    cases (List.range l.length).all (okAt l) <;> rfl
  · rw [dec_t (by omega:(l.length:Int) > 1000),dec_f hb]
    rfl
end Go.SH
namespace Go.SH
theorem contains_idx {bad:Nat → Bool}:∀ (m i:Nat),((match (firstAt (idxOf bad) i m).getD (.inr ()) with | .inl x=>some x | .inr _=>some (-1):Option Int).bind fun x=>some (decide (x ≥ 0))) = some ((List.range' i m).any bad)
  | 0,i=>by simp [firstAt]
  | m + 1,i=>by
    unfold firstAt idxOf
    rw [List.range'_succ,List.any_cons]
    cases hb:bad i with
    | true=>simp
    | false=>simp only [cond_false,Bool.false_or];exact contains_idx m (i + 1)
theorem any_idx {α:Type} {f:α → Bool}:∀ (l:List α),(List.range l.length).any (badAt f l) = l.any f:=by
  intro l
  rw [Bool.eq_iff_iff]
  simp only [List.any_eq_true,List.mem_range,badAt]
  constructor
  · rintro ⟨i,hi,h⟩
    rw [List.getElem?_eq_getElem hi] at h
    exact ⟨_,List.getElem_mem hi,h⟩
  · rintro ⟨x,hx,h⟩
    obtain ⟨i,hi,rfl⟩:=List.mem_iff_getElem.1 hx
    exact ⟨i,hi,by rw [List.getElem?_eq_getElem hi];exact h⟩
theorem grid_side_eq (n:Int):grid_side n = some (decide (1 ≤ n ∧ n ≤ 200)):=by
  unfold grid_side
  by_cases h:1 ≤ n
  · rw [dec_t (by omega:n ≥ 1)];simp [h]
  · rw [dec_f (by omega:¬ n ≥ 1)];simp [h]
abbrev GridT:=List (List CellT)
/-- How wide a grid is. -/
def widthG (g:GridT):Nat:=match g with
  | []=>0
  | l :: _=>l.length
def mayGrid (g:GridT):Bool:=decide (1 ≤ g.length ∧ g.length ≤ 200) && (decide (1 ≤ widthG g ∧ widthG g ≤ 200) && g.all fun l=>(l.length == widthG g) && mayLine l)
theorem widthG_get {g:GridT} {l:List CellT} (h:g[0]? = some l):widthG g = l.length:=by
  cases g with
  | nil=>simp at h
  | cons x g=>simp at h;subst h;rfl
theorem grid_May_1_eq {l:List CellT} {g:GridT} (h:g ≠ []):grid_May_1_649 l g = some (!((l.length == widthG g) && mayLine l)):=by
  unfold grid_May_1_649
  cases g with
  | nil=>exact absurd rfl h
  | cons x g=>
    rw [show (0:Int) = ((0:Nat):Int) from rfl,getI_nat]
    simp only [List.getElem?_cons_zero,Option.bind_some,line_May_eq,widthG]
    have e:((l.length:Int) != (x.length:Int)) = !(l.length == x.length):=by
      rw [Bool.eq_iff_iff];simp;omega
    rw [e]
    cases (l.length == x.length) <;> rfl
theorem index_dd0_step {a g:GridT} (hg:g ≠ []) (ha:a.length ≤ 1000) {i:Nat} (hi:i < a.length):slices_IndexFunc_dd0_loop1 a g (i:Int) = some (stepO (idxOf (badAt (fun l=>!((l.length == widthG g) && mayLine l)) a) i) i):=by
  unfold slices_IndexFunc_dd0_loop1 stepO idxOf badAt
  rw [dec_t (by omega:(i:Int) < (a.length:Int))]
  simp only [Option.bind_some,cond_true,getI_nat,List.getElem?_eq_getElem hi,grid_May_1_eq hg]
  have hw:IntKind.i64.wrap ((i:Int) + 1) = ((i + 1:Nat):Int):=by rw [w64id (by omega)];rfl
  rw [hw]
  cases (!((a[i].length == widthG g) && mayLine a[i])) <;> rfl
theorem contains_dd0_eq {a g:GridT} (hg:g ≠ []) (ha:a.length ≤ 1000):slices_ContainsFunc_dd0 a g = some (a.any fun l=>!((l.length == widthG g) && mayLine l)):=by
  unfold slices_ContainsFunc_dd0 slices_IndexFunc_dd0
  have h:=loop_for (step:=slices_IndexFunc_dd0_loop1 a g) (n:=a.length) (P:=idxOf (badAt (fun l=>!((l.length == widthG g) && mayLine l)) a)) (e:=(.inr ())) (fun i hi=>index_dd0_step hg ha hi) (by simp [slices_IndexFunc_dd0_loop1]) a.length 0 (by omega)
  rw [show ((0:Nat):Int) = 0 from rfl] at h
  rw [h]
  simp only [Option.bind_some]
  have:=contains_idx (bad:=badAt (fun l=>!((l.length == widthG g) && mayLine l)) a) a.length 0
  rw [← List.range_eq_range',any_idx] at this
  exact this
theorem grid_May_eq {g:GridT} (hb:g.length ≤ 140737488355328):grid_May g = some (mayGrid g):=by
  unfold grid_May mayGrid
  simp only [grid_side_eq,Option.bind_some]
  by_cases h:1 ≤ g.length ∧ g.length ≤ 200
  · rw [dec_t h,dec_t (by omega:1 ≤ (g.length:Int) ∧ (g.length:Int) ≤ 200)]
    have hne:g ≠ []:=by intro e;subst e;simp at h
    obtain ⟨l,hl⟩:∃ l,g[0]? = some l:=⟨_,List.getElem?_eq_getElem (by omega:0 < g.length)⟩
    have hwd:=widthG_get hl
    rw [show (0:Int) = ((0:Nat):Int) from rfl,getI_nat,hl]
    simp only [Bool.not_true,cond_false,Option.bind_some,Bool.true_and]
    by_cases h2:1 ≤ l.length ∧ l.length ≤ 200
    · rw [dec_t (by omega:1 ≤ widthG g ∧ widthG g ≤ 200),dec_t (by omega:1 ≤ (l.length:Int) ∧ (l.length:Int) ≤ 200)]
      simp only [Bool.not_true,cond_false,Option.bind_some,Bool.true_and]
      rw [contains_dd0_eq hne (by omega)]
      simp only [Option.bind_some,List.not_any_eq_all_not,Bool.not_not]
    · rw [dec_f (by omega:¬ (1 ≤ widthG g ∧ widthG g ≤ 200)),dec_f (by omega:¬ (1 ≤ (l.length:Int) ∧ (l.length:Int) ≤ 200))]
      rfl
  · rw [dec_f h,dec_f (by omega:¬ (1 ≤ (g.length:Int) ∧ (g.length:Int) ≤ 200))]
    rfl
end Go.SH
namespace Go.SH
abbrev SpotT:=Int × Int × PenT × Bool × Bool
abbrev ScrT:=Int × Int × GridT × GridT × Int × Int × Bool × PenT × Int × Int × Int × (SpotT × SpotT) × (Int × Int × Int × Int) × List Int
def maySpot (x:SpotT):Bool:=decide (0 ≤ x.1 ∧ x.1 < 200) && (decide (0 ≤ x.2.1 ∧ x.2.1 < 200) && mayPen x.2.2.1)
theorem screen_spot_1_eq (n:Int):screen_spot_1 n = some (decide (0 ≤ n ∧ n < 200)):=by
  unfold screen_spot_1
  by_cases h:0 ≤ n
  · rw [dec_t (by omega:n ≥ 0)];simp [h]
  · rw [dec_f (by omega:¬ n ≥ 0)];simp [h]
theorem screen_spot_eq (x:SpotT):screen_spot x = some (maySpot x):=by
  unfold screen_spot maySpot
  simp only [screen_spot_1_eq,pen_May_eq,Option.bind_some]
  cases decide (0 ≤ x.1 ∧ x.1 < 200) <;> cases decide (0 ≤ x.2.1 ∧ x.2.1 < 200) <;> rfl
theorem screen_May_1_eq (n m:Int):screen_May_1_1b3 n m = some (decide (0 ≤ n ∧ n < m)):=by
  unfold screen_May_1_1b3
  by_cases h:0 ≤ n
  · rw [dec_t (by omega:n ≥ 0)];simp [h]
  · rw [dec_f (by omega:¬ n ≥ 0)];simp [h]
def mayTitle (l:List Int):Bool:=decide (l.length ≤ 60) && l.all fun c=>decide (1 ≤ colsOf c)
theorem index_c49_step {a:List Int} (ha:a.length ≤ 60) {i:Nat} (hi:i < a.length):slices_IndexFunc_c49_loop1 a (i:Int) = some (stepO (idxOf (badAt (fun c=>!decide (1 ≤ colsOf c)) a) i) i):=by
  unfold slices_IndexFunc_c49_loop1 stepO idxOf badAt
  rw [dec_t (by omega:(i:Int) < (a.length:Int))]
  simp only [Option.bind_some,cond_true,getI_nat,List.getElem?_eq_getElem hi,screen_titled_1,cols_Of_eq]
  have hw:IntKind.i64.wrap ((i:Int) + 1) = ((i + 1:Nat):Int):=by rw [w64id (by omega)];rfl
  rw [hw]
  have e:decide (colsOf a[i] < 1) = !decide (1 ≤ colsOf a[i]):=by rw [Bool.eq_iff_iff];simp
  rw [e]
  cases (!decide (1 ≤ colsOf a[i])) <;> rfl
theorem screen_titled_eq (l:List Int):screen_titled l = some (mayTitle l):=by
  unfold screen_titled mayTitle
  by_cases h:l.length ≤ 60
  · rw [dec_t (by omega:(l.length:Int) ≤ 60),dec_t h]
    simp only [cond_true,Bool.true_and]
    unfold slices_ContainsFunc_c49 slices_IndexFunc_c49
    have h1:=loop_for (step:=slices_IndexFunc_c49_loop1 l) (n:=l.length) (P:=idxOf (badAt (fun c=>!decide (1 ≤ colsOf c)) l)) (e:=(.inr ())) (fun i hi=>index_c49_step h hi) (by simp [slices_IndexFunc_c49_loop1]) l.length 0 (by omega)
    rw [show ((0:Nat):Int) = 0 from rfl] at h1
    rw [h1]
    simp only [Option.bind_some]
    have h2:=contains_idx (bad:=badAt (fun c=>!decide (1 ≤ colsOf c)) l) l.length 0
    rw [← List.range_eq_range',any_idx] at h2
    have h3:=congrArg (fun o=>Option.bind o fun x1=>some (!x1)) h2
    simp only [Option.bind_some,List.not_any_eq_all_not,Bool.not_not] at h3
    exact h3
  · rw [dec_f (by omega:¬ (l.length:Int) ≤ 60),dec_f h]
    rfl
/-- Is a grid one of that size? -/
def sizedM (g:GridT) (rows cols:Int):Bool:=mayGrid g && (((g.length:Int) == rows) && ((widthG g:Int) == cols))
theorem screen_sized_eq {g:GridT} {s:ScrT} (hb:g.length ≤ 140737488355328):screen_sized g s = some (sizedM g s.1 s.2.1):=by
  unfold screen_sized sizedM
  rw [grid_May_eq hb]
  simp only [Option.bind_some]
  cases hm:mayGrid g with
  | false=>rfl
  | true=>
    simp only [cond_true,Bool.true_and]
    cases ((g.length:Int) == s.1) with
    | false=>rfl
    | true=>
      have hl:1 ≤ g.length:=by
        simp only [mayGrid,Bool.and_eq_true,decide_eq_true_eq] at hm;exact hm.1.1
      obtain ⟨l,hl⟩:∃ l,g[0]? = some l:=⟨_,List.getElem?_eq_getElem (by omega:0 < g.length)⟩
      rw [show (0:Int) = ((0:Nat):Int) from rfl,getI_nat,hl,widthG_get hl]
      rfl
def otherM (modes:Int):Bool:=ibits .and .i64 modes 128 != 0
def mayScr (s:ScrT):Bool:=
  (sizedM s.2.2.1 s.1 s.2.1 && ((otherM s.2.2.2.2.2.2.2.2.2.2.1 == decide (0 < s.2.2.2.1.length)) && (!otherM s.2.2.2.2.2.2.2.2.2.2.1 || sizedM s.2.2.2.1 s.1 s.2.1))) &&
  ((decide (0 ≤ s.2.2.2.2.1 ∧ s.2.2.2.2.1 < s.1) && (decide (0 ≤ s.2.2.2.2.2.2.2.2.1 ∧ s.2.2.2.2.2.2.2.2.1 < s.1) && (decide (0 ≤ s.2.2.2.2.2.2.2.2.2.1 ∧ s.2.2.2.2.2.2.2.2.2.1 < s.1) && (decide (0 ≤ s.2.2.2.2.2.1) && (decide (s.2.2.2.2.2.1 < s.2.1) && (!s.2.2.2.2.2.2.1 || decide (s.2.1 - 1 ≤ s.2.2.2.2.2.1))))))) &&
  ((!decide (s.2.2.2.2.2.2.2.2.2.1 ≤ s.2.2.2.2.2.2.2.2.1) || decide (s.1 ≤ 1)) && (decide (0 ≤ s.2.2.2.2.2.2.2.2.2.2.1) && decide (s.2.2.2.2.2.2.2.2.2.2.1 ≤ 255))) &&
  (mayPen s.2.2.2.2.2.2.2.1 && (maySpot s.2.2.2.2.2.2.2.2.2.2.2.1.1 && (maySpot s.2.2.2.2.2.2.2.2.2.2.2.1.2 && mayTitle s.2.2.2.2.2.2.2.2.2.2.2.2.2))))
theorem screen_May_eq {s:ScrT} (h1:s.2.2.1.length ≤ 140737488355328) (h2:s.2.2.2.1.length ≤ 140737488355328):screen_May s = some (mayScr s):=by
  obtain ⟨rows,cols,grid,main,row,col,late,pen,top,bottom,modes,saved,tabs,title⟩:=s
  simp only at h1 h2
  unfold screen_May mayScr
  simp only [screen_sized_eq (s:=(rows,cols,grid,main,row,col,late,pen,top,bottom,modes,saved,tabs,title)) h1,screen_sized_eq (s:=(rows,cols,grid,main,row,col,late,pen,top,bottom,modes,saved,tabs,title)) h2,screen_May_1_eq,pen_May_eq,screen_spot_eq,screen_titled_eq,Option.bind_some]
  have hm:decide ((main.length:Int) > 0) = decide (0 < main.length):=by rw [Bool.eq_iff_iff];simp
  rw [hm]
  have ho:(ibits .and .i64 modes 128 != 0) = otherM modes:=rfl
  rw [ho]
  cases hs:sizedM grid rows cols with
  | false=>rfl
  | true=>
    have hr:1 ≤ cols ∧ cols ≤ 200:=by
      simp only [sizedM,mayGrid,Bool.and_eq_true,decide_eq_true_eq,beq_iff_eq] at hs
      omega
    have hw:IntKind.i64.wrap (cols - 1) = cols - 1:=w64id (by omega)
    rw [hw]
    have e1:decide (col < 0) = !decide (0 ≤ col):=by rw [Bool.eq_iff_iff];simp
    have e2:decide (col ≥ cols) = !decide (col < cols):=by rw [Bool.eq_iff_iff];simp
    have e3:decide (col < cols - 1) = !decide (cols - 1 ≤ col):=by rw [Bool.eq_iff_iff];simp
    have e4:decide (rows > 1) = !decide (rows ≤ 1):=by rw [Bool.eq_iff_iff];simp
    have e5:decide (modes < 0) = !decide (0 ≤ modes):=by rw [Bool.eq_iff_iff];simp
    have e6:decide (modes > 255) = !decide (modes ≤ 255):=by rw [Bool.eq_iff_iff];simp
    rw [e1,e2,e3,e4,e5,e6,show decide (top ≥ bottom) = decide (bottom ≤ top) from rfl]
    generalize decide (0 ≤ row ∧ row < rows) = b1
    generalize decide (0 ≤ top ∧ top < rows) = b2
    generalize decide (0 ≤ bottom ∧ bottom < rows) = b3
    generalize decide (0 ≤ col) = b4
    generalize decide (col < cols) = b5
    generalize decide (cols - 1 ≤ col) = b6
    generalize decide (rows ≤ 1) = b7
    generalize decide (0 ≤ modes) = b8
    generalize decide (modes ≤ 255) = b9
    generalize decide (bottom ≤ top) = b10
    generalize decide (0 < main.length) = b11
    generalize sizedM main rows cols = b12
    generalize otherM modes = b13
    generalize mayPen pen = b14
    generalize maySpot saved.1 = b15
    generalize maySpot saved.2 = b16
    generalize mayTitle title = b17
    cases b13 <;> cases b11 <;> cases b12 <;> first
      | rfl
      | (simp only [Bool.not_true,Bool.not_false,cond_true,cond_false,Option.bind_some,Bool.true_and,Bool.false_and,beq_self_eq_true,Bool.true_or,Bool.or_true,Bool.false_or]
         cases b1 <;> cases b2 <;> cases b3 <;> first
          | rfl
          | (cases b4 <;> cases b5 <;> cases late <;> cases b6 <;> first
             | rfl
             | (cases b10 <;> cases b7 <;> cases b8 <;> cases b9 <;> first
                | rfl
                | (cases b14 <;> cases b15 <;> cases b16 <;> first | rfl | (cases b17 <;> rfl)))))
end Go.SH
namespace Go.SH
theorem Mul_all:∀ n:_root_.Fin 1001,bits_Mul 1 (n.val:Int) = some (0,(n.val:Int)):=by decide +kernel
def zeroC:CellT:=(0,(0,0),0,0,0,0)
def rst (x:CellT) (N k:Nat):List CellT:=List.replicate k x ++ List.replicate (N - k) zeroC
theorem rst_cpy (x:CellT) {N k:Nat} (h:k ≤ N):cpy (rst x N k) k (((rst x N k).drop 0).take k) (min (((rst x N k).drop 0).take k).length (N - k)) = rst x N (k + min k (N - k)):=by
  have e1:((rst x N k).drop 0).take k = List.replicate k x:=by
    unfold rst
    rw [List.drop_zero,List.take_append_of_le_length (by simp),List.take_of_length_le (by simp)]
  rw [e1]
  unfold cpy rst
  rw [List.length_replicate,List.take_append_of_le_length (by simp),List.take_of_length_le (by simp),List.take_replicate,List.drop_append,List.drop_eq_nil_of_le (by simp),List.nil_append,List.length_replicate,List.drop_replicate,← List.append_assoc,List.replicate_append_replicate]
  congr 2 <;> omega
theorem Repeat_step (x:CellT) {N k:Nat} (hN:N ≤ 1000) (h:k ≤ N):slices_Repeat_4bb_loop1 (0,(N:Int)) ((k:Int),rst x N k) = some (bif decide (k < N) then .inr (((k + min k (N - k):Nat):Int),rst x N (k + min k (N - k))) else .inl (rst x N k)):=by
  unfold slices_Repeat_4bb_loop1
  have hw:(IntKind.i64.wrap (N:Int)).toNat = N:=by rw [w64id (by omega)];omega
  have hl:(rst x N k).length = N:=by unfold rst;simp;omega
  simp only [hw]
  by_cases hk:k < N
  · rw [dec_t (by omega:(k:Int) < (N:Int)),dec_t hk]
    simp only [Option.bind_some,cond_true,Int.toNat_natCast,hl]
    rw [req_pos (by omega),req_pos (by omega),req_pos (by omega),req_pos (by omega),rst_cpy x h]
    have e1:(((rst x N k).drop 0).take k).length = k:=by simp [hl];omega
    rw [e1,w64id (by omega)]
    rfl
  · rw [dec_f (by omega:¬ (k:Int) < (N:Int)),dec_f hk]
    rfl
theorem Repeat_loop (x:CellT) {N:Nat} (hN:N ≤ 1000):∀ (m k:Nat),N - k ≤ m → k ≤ N → (1 ≤ k ∨ N = 0) → loopO (slices_Repeat_4bb_loop1 (0,(N:Int))) ((k:Int),rst x N k) = some (List.replicate N x)
  | m,k,hm,h,h1=>by
    rw [loopO_eq,Repeat_step x hN h]
    by_cases hk:k < N
    · rw [dec_t hk]
      cases m with
      | zero=>omega
      | succ m=>exact Repeat_loop x hN m (k + min k (N - k)) (by omega) (by omega) (.inl (by omega))
    · rw [dec_f hk]
      have:k = N:=by omega
      subst this
      simp [rst]
theorem Repeat_eq (x:CellT) {N:Nat} (hN:N ≤ 1000):slices_Repeat_4bb [x] (N:Int) = some (List.replicate N x):=by
  unfold slices_Repeat_4bb
  rw [dec_f (by omega:¬ (N:Int) < 0)]
  have e0:IntKind.u64.wrap 1 = 1:=by decide +kernel
  have e1:IntKind.u64.wrap (([x].length:Nat):Int) = 1:=e0
  have e2:IntKind.u64.wrap (N:Int) = (N:Int):=by simp [IntKind.wrap,IntKind.signed,IntKind.bits];omega
  rw [e1,e2,Mul_all ⟨N,by omega⟩]
  simp only [Option.bind_some,cond_false]
  rw [dec_f (by omega:¬ (0:Int) > 0),dec_f (by omega:¬ (N:Int) > 9223372036854775807)]
  simp only [Option.bind_some,cond_false]
  have hw:(IntKind.i64.wrap (N:Int)) = N:=w64id (by omega)
  simp only [hw,Int.toNat_natCast]
  rw [req_pos (by unfold maxBy;omega),req_pos (by simp)]
  have e3:cpy (List.replicate N (0,(0,0),0,0,0,0):List CellT) 0 [x] (min [x].length N) = rst x N (min 1 N):=by
    cases N with
    | zero=>rfl
    | succ N=>
      have:min 1 (N + 1) = 1:=by omega
      simp only [List.length_singleton,this]
      unfold cpy rst zeroC
      simp [List.replicate_succ]
  have h:=Repeat_loop x hN N (min 1 N) (by omega) (by omega) (by omega)
  rw [← e3] at h
  have h':loopO (slices_Repeat_4bb_loop1 (0,(N:Int))) (((min ([x]:List CellT).length N:Nat):Int),cpy (List.replicate N (0,(0,0),0,0,0,0):List CellT) 0 [x] (min ([x]:List CellT).length N)) = some (List.replicate N x):=h
  erw [h']
  simp only [Option.bind_some]
  rw [req_pos (by simp)]
/-- A blank of a pen. -/
def blankC (p:PenT):CellT:=(32,(0,0),0,0,0,p.2.2)
def blankL (n:Nat) (p:PenT):List CellT:=List.replicate n (blankC p)
theorem line_Blank_eq {n:Nat} (hn:n ≤ 1000) {p:PenT} (hp:mayPen p = true):line_Blank (n:Int) p = some (blankL n p):=by
  unfold line_Blank
  rw [dec_f (by omega:¬ (n:Int) < 0),dec_f (by omega:¬ (n:Int) > 1000)]
  simp only [cond_false,pen_May_eq,hp,Option.bind_some,Bool.not_true,line_blank]
  have:=Repeat_eq (blankC p) hn
  unfold blankC at this
  erw [this]
  rfl
end Go.SH
namespace Go.SH
def gst (r:List CellT) (N k:Nat):GridT:=List.replicate k r ++ List.replicate (N - k) []
theorem gst_set (r:List CellT) {N k:Nat} (h:k < N):(gst r N k)[k]? = some [] ∧ (gst r N k).set k r = gst r N (k + 1):=by
  unfold gst
  obtain ⟨m,rfl⟩:∃ m,N = k + 1 + m:=⟨N - (k + 1),by omega⟩
  have e1:k + 1 + m - k = m + 1:=by omega
  have e2:k + 1 + m - (k + 1) = m:=by omega
  rw [e1,e2,List.replicate_succ]
  constructor
  · rw [List.getElem?_append_right (by simp)];simp
  · rw [List.set_append_right _ _ (by simp)]
    simp only [List.length_replicate,Nat.sub_self,List.set_cons_zero]
    rw [show List.replicate (k + 1) r = List.replicate k r ++ [r] from List.replicate_succ',List.append_assoc]
    rfl
theorem Blank_step {N n:Nat} (hN:N ≤ 200) (hn:n ≤ 200) {p:PenT} (hp:mayPen p = true) {k:Nat} (h:k < N):grid_Blank_d0d_loop1 (N:Int) (n:Int) p ((k:Int),gst (blankL n p) N k) = some (.inr (((k + 1:Nat):Int),gst (blankL n p) N (k + 1))):=by
  unfold grid_Blank_d0d_loop1
  obtain ⟨e1,e2⟩:=gst_set (blankL n p) h
  simp only [Int.toNat_natCast]
  rw [dec_t (by omega:(k:Int) < (N:Int))]
  simp only [Option.bind_some,cond_true]
  rw [line_Blank_eq (by omega) hp]
  simp only [Option.bind_some]
  rw [req_pos (by omega)]
  erw [e1]
  simp only [Option.bind_some]
  erw [e2]
  rw [w64id (by omega)]
  rfl
theorem Blank_loop {N n:Nat} (hN:N ≤ 200) (hn:n ≤ 200) {p:PenT} (hp:mayPen p = true):∀ (m k:Nat),k + m = N → loopO (grid_Blank_d0d_loop1 (N:Int) (n:Int) p) ((k:Int),gst (blankL n p) N k) = some (List.replicate N (blankL n p))
  | 0,k,h=>by
    have:k = N:=by omega
    subst this
    rw [loopO_eq]
    have:grid_Blank_d0d_loop1 (k:Int) (n:Int) p ((k:Int),gst (blankL n p) k k) = some (.inl (gst (blankL n p) k k)):=by
      unfold grid_Blank_d0d_loop1
      simp
    rw [this]
    simp [gst]
  | m + 1,k,h=>by
    rw [loopO_eq,Blank_step hN hn hp (by omega)]
    exact Blank_loop hN hn hp m (k + 1) (by omega)
def blankG (rows cols:Nat) (p:PenT):GridT:=List.replicate rows (blankL cols p)
theorem grid_Blank_d0d_eq {rows cols:Nat} (hr:1 ≤ rows ∧ rows ≤ 200) (hc:1 ≤ cols ∧ cols ≤ 200) {p:PenT} (hp:mayPen p = true):grid_Blank_d0d (rows:Int) (cols:Int) p = some (blankG rows cols p):=by
  unfold grid_Blank_d0d
  simp only [grid_side_eq,pen_May_eq,Option.bind_some]
  rw [dec_t (by omega:1 ≤ (rows:Int) ∧ (rows:Int) ≤ 200),dec_t (by omega:1 ≤ (cols:Int) ∧ (cols:Int) ≤ 200)]
  simp only [hp,Bool.not_true,cond_false,Option.bind_some,Int.toNat_natCast]
  rw [req_pos (by unfold maxBy;omega)]
  have h:=Blank_loop hr.2 hc.2 hp rows 0 (by omega)
  have e:gst (blankL cols p) rows 0 = List.replicate rows []:=by unfold gst;simp
  rw [e] at h
  erw [h]
  simp only [Option.bind_some]
  rw [req_pos (by simp)]
  rfl
/-- The usual stops. -/
noncomputable def usual (n:Nat):Int × Int × Int × Int:=(tabs_Usual (n:Int)).getD (0,0,0,0)
theorem Usual_all:∀ n:_root_.Fin 201,(tabs_Usual (n.val:Int)).isSome = true:=by decide +kernel
theorem tabs_Usual_eq {n:Nat} (h:n ≤ 200):tabs_Usual (n:Int) = some (usual n):=by
  have:=Usual_all ⟨n,by omega⟩
  unfold usual
  simp only at this
  cases hc:tabs_Usual (n:Int) with
  | none=>rw [hc] at this;simp at this
  | some x=>rfl
def noSpot:SpotT:=(0,0,(0,0,0),false,false)
/-- A new screen. -/
noncomputable def newS (rows cols:Nat):ScrT:=((rows:Int),(cols:Int),blankG rows cols (0,0,0),[],0,0,false,(0,0,0),0,(rows:Int) - 1,9,(noSpot,noSpot),usual cols,[])
theorem screen_New_eq {rows cols:Nat} (hr:1 ≤ rows ∧ rows ≤ 200) (hc:1 ≤ cols ∧ cols ≤ 200):screen_New (rows:Int) (cols:Int) = some (newS rows cols,0):=by
  unfold screen_New
  rw [grid_Blank_d0d_eq hr hc (by decide)]
  simp only [Option.bind_some]
  have e:((((blankG rows cols (0,0,0)).length:Nat):Int) == 0) = false:=by
    unfold blankG;simp;omega
  erw [e]
  simp only [cond_false,Option.bind_some]
  rw [tabs_Usual_eq hc.2]
  simp only [Option.bind_some]
  rw [req_pos trivial,w64id (by omega)]
  rfl
end Go.SH
namespace Go.SH
theorem Clone_eq {l:List CellT} (h:l.length ≤ 1000):slices_Clone_0e3 l = some l:=by
  unfold slices_Clone_0e3;rw [req_pos (by unfold maxBy;omega)]
theorem Clone_4da_r:slices_Clone_4da = slices_Clone_0e3:=rfl
theorem copied_b13_r:screen_copied_b13 = screen_copied_ed7:=rfl
theorem copied_step {g:GridT} {k:Nat} (hk:k < g.length) (hg:g.length ≤ 200) (hl:∀ l ∈ g,l.length ≤ 1000):screen_copied_ed7_loop1 g ((k:Int),g.take k) = some (.inr (((k + 1:Nat):Int),g.take (k + 1))):=by
  unfold screen_copied_ed7_loop1
  rw [dec_t (by omega:(k:Int) < (g.length:Int))]
  simp only [Option.bind_some,cond_true,getI_nat,List.getElem?_eq_getElem hk]
  rw [Clone_4da_r,Clone_eq (hl _ (List.getElem_mem hk))]
  simp only [Option.bind_some]
  have e:g.take k ++ [g[k]] = g.take (k + 1):=by simp
  rw [req_pos trivial,req_pos trivial,req_pos (by simp only [List.length_append,List.length_take,List.length_singleton];unfold maxBy;omega),w64id (by omega)]
  erw [e]
  rfl
theorem copied_loop {g:GridT} (hg:g.length ≤ 200) (hl:∀ l ∈ g,l.length ≤ 1000):∀ (m k:Nat),k + m = g.length → loopO (screen_copied_ed7_loop1 g) ((k:Int),g.take k) = some g
  | 0,k,h=>by
    have e:k = g.length:=by omega
    subst e
    rw [loopO_eq]
    have:screen_copied_ed7_loop1 g ((g.length:Int),g.take g.length) = some (.inl g):=by
      unfold screen_copied_ed7_loop1
      simp
      rw [req_pos trivial]
    rw [this]
  | m + 1,k,h=>by
    rw [loopO_eq,copied_step (by omega) hg hl]
    exact copied_loop hg hl m (k + 1) (by omega)
theorem copied_eq {g:GridT} (hg:g.length ≤ 200) (hl:∀ l ∈ g,l.length ≤ 1000):screen_copied_ed7 g = some g:=by
  unfold screen_copied_ed7
  have h:=copied_loop hg hl g.length 0 (by omega)
  rw [List.take_zero] at h
  erw [h]
  simp only [Option.bind_some]
  rw [req_pos trivial]
theorem CloneT_eq {l:List Int} (h:l.length ≤ 1000):slices_Clone_b44 l = some l:=by
  unfold slices_Clone_b44;rw [req_pos (by unfold maxBy;omega)]
abbrev FlatT:=GridT × GridT × List Int × Int × Int × Int × Int × Bool × Int × Int × Int × Int × Int × Int × Int × Int × Int × Int × Int × Bool × Bool × Int × Int × Int × Int × Int × Bool × Bool × Int × Int × Int × Int
def flat:ScrT → FlatT
  | (r,c,g,m,row,col,late,(pb,pf,pk),top,bot,md,((s1r,s1c,(s1pb,s1pf,s1pk),s1o,s1l),s2r,s2c,(s2pb,s2pf,s2pk),s2o,s2l),(t1,t2,t3,t4),ti)=>(g,m,ti,r,c,row,col,late,pb,pf,pk,top,bot,md,s1r,s1c,s1pb,s1pf,s1pk,s1o,s1l,s2r,s2c,s2pb,s2pf,s2pk,s2o,s2l,t1,t2,t3,t4)
def unflat:FlatT → ScrT
  | (g,m,ti,r,c,row,col,late,pb,pf,pk,top,bot,md,s1r,s1c,s1pb,s1pf,s1pk,s1o,s1l,s2r,s2c,s2pb,s2pf,s2pk,s2o,s2l,t1,t2,t3,t4)=>(r,c,g,m,row,col,late,(pb,pf,pk),top,bot,md,((s1r,s1c,(s1pb,s1pf,s1pk),s1o,s1l),s2r,s2c,(s2pb,s2pf,s2pk),s2o,s2l),(t1,t2,t3,t4),ti)
theorem flat_unflat (s:FlatT):flat (unflat s) = s:=rfl
abbrev ChT:=Int × Int × Int × Int × List Int × List Int
/-- One change, as the program does it. -/
noncomputable def chgP (ch:ChT):ScrT → Option FlatT
  | (r,c,g,m,row,col,late,(pb,pf,pk),top,bot,md,((s1r,s1c,(s1pb,s1pf,s1pk),s1o,s1l),s2r,s2c,(s2pb,s2pf,s2pk),s2o,s2l),(t1,t2,t3,t4),ti)=>screen_work_change_537 ch r c row col late pb pf pk top bot md s1r s1c s1pb s1pf s1pk s1o s1l s2r s2c s2pb s2pf s2pk s2o s2l t1 t2 t3 t4 g m ti
def betw (n lo hi:Int):Int:=if (if hi < n then hi else n) > lo then (if hi < n then hi else n) else lo
/-- Numbers of a change are brought between limits, but of two kinds. -/
def normC (ch:ChT):ChT:=bif (ch.1 != 20) && (ch.1 != 27) then (ch.1,betw ch.2.1 (-1000) 1000,betw ch.2.2.1 (-1000) 1000,ch.2.2.2) else ch
theorem between_eq (n lo hi:Int):screen_between n lo hi = some (betw n lo hi):=rfl
theorem Do_step {l:List ChT} {i:Nat} {ch:ChT} (h:l[i]? = some ch) (hb:l.length ≤ 1000000) (s:ScrT):screen_Do_loop1 l ((i:Int),flat s) = (chgP (normC ch) s).bind fun x=>some (.inr (((i + 1:Nat):Int),x)):=by
  obtain ⟨r,c,g,m,row,col,late,⟨pb,pf,pk⟩,top,bot,md,⟨⟨s1r,s1c,⟨s1pb,s1pf,s1pk⟩,s1o,s1l⟩,s2r,s2c,⟨s2pb,s2pf,s2pk⟩,s2o,s2l⟩,⟨t1,t2,t3,t4⟩,ti⟩:=s
  have hi:i < l.length:=(List.getElem?_eq_some_iff.1 h).1
  unfold screen_Do_loop1
  rw [dec_t (by omega:(i:Int) < (l.length:Int))]
  have hw:IntKind.i64.wrap ((i:Int) + 1) = ((i + 1:Nat):Int):=by rw [w64id (by omega)];rfl
  simp only [Option.bind_some,cond_true,getI_nat,h,between_eq,flat,chgP,hw]
  have hn:((bif ch.1 != 20 then bif ch.1 != 27 then some true else some false else some false:Option Bool).bind fun x34=>bif x34 then some (betw ch.2.1 (-1000) 1000,betw ch.2.2.1 (-1000) 1000) else some (ch.2.1,ch.2.2.1)) = some ((normC ch).2.1,(normC ch).2.2.1):=by
    unfold normC
    cases (ch.1 != 20) <;> cases (ch.1 != 27) <;> rfl
  erw [hn]
  simp only [Option.bind_some]
  have hn1:(normC ch).1 = ch.1 ∧ (normC ch).2.2.2 = ch.2.2.2:=by
    unfold normC
    cases ((ch.1 != 20) && (ch.1 != 27)) <;> exact ⟨rfl,rfl⟩
  have e:(ch.1,(normC ch).2.1,(normC ch).2.2.1,ch.2.2.2) = normC ch:=by rw [← hn1.1,← hn1.2]
  erw [e]
  rw [req_pos trivial,req_pos trivial,req_pos trivial]
  congr 1
theorem Do_end {l:List ChT} (s:ScrT):screen_Do_loop1 l ((l.length:Int),flat s) = some (.inl (flat s)):=by
  obtain ⟨r,c,g,m,row,col,late,⟨pb,pf,pk⟩,top,bot,md,⟨⟨s1r,s1c,⟨s1pb,s1pf,s1pk⟩,s1o,s1l⟩,s2r,s2c,⟨s2pb,s2pf,s2pk⟩,s2o,s2l⟩,⟨t1,t2,t3,t4⟩,ti⟩:=s
  unfold screen_Do_loop1
  rw [dec_f (by omega:¬ (l.length:Int) < (l.length:Int))]
  simp only [Option.bind_some,cond_false,flat]
  rw [req_pos trivial,req_pos trivial,req_pos trivial]
/-- Changes, one behind the other. -/
noncomputable def foldP:List ChT → ScrT → Option ScrT
  | [],s=>some s
  | ch :: r,s=>(chgP (normC ch) s).bind fun x=>foldP r (unflat x)
theorem Do_loop {l:List ChT} (hb:l.length ≤ 1000000):∀ (m i:Nat) (s:ScrT),i + m = l.length → loopO (screen_Do_loop1 l) ((i:Int),flat s) = (foldP (l.drop i) s).map flat
  | 0,i,s,h=>by
    have e:i = l.length:=by omega
    subst e
    rw [loopO_eq,Do_end]
    simp [foldP]
  | m + 1,i,s,h=>by
    have hi:i < l.length:=by omega
    rw [loopO_eq,Do_step (List.getElem?_eq_getElem hi) hb,List.drop_eq_getElem_cons hi]
    unfold foldP
    cases hc:chgP (normC l[i]) s with
    | none=>rfl
    | some x=>
      have:=Do_loop hb m (i + 1) (unflat x) (by omega)
      rw [flat_unflat] at this
      exact this
theorem may_len {s:ScrT} (h:mayScr s = true):s.2.2.1.length ≤ 200 ∧ (∀ l ∈ s.2.2.1,l.length ≤ 1000) ∧ s.2.2.2.1.length ≤ 200 ∧ (∀ l ∈ s.2.2.2.1,l.length ≤ 1000) ∧ s.2.2.2.2.2.2.2.2.2.2.2.2.2.length ≤ 60:=by
  obtain ⟨rows,cols,grid,main,row,col,late,pen,top,bottom,modes,saved,tabs,title⟩:=s
  have key:∀ {g:GridT},mayGrid g = true → g.length ≤ 200 ∧ ∀ l ∈ g,l.length ≤ 1000:=by
    intro g hg
    simp only [mayGrid,Bool.and_eq_true,decide_eq_true_eq,List.all_eq_true,beq_iff_eq] at hg
    refine ⟨hg.1.2,fun l hl=>?_⟩
    have:=(hg.2.2 l hl).1
    omega
  unfold mayScr at h
  simp only [Bool.and_eq_true] at h
  obtain ⟨⟨hg,hm1,hm2⟩,⟨h2,h3⟩,h4,h5,h6,ht⟩:=h
  simp only [sizedM,Bool.and_eq_true] at hg
  simp only [mayTitle,Bool.and_eq_true,decide_eq_true_eq] at ht
  simp only [beq_iff_eq] at hm1
  simp only [sizedM,Bool.and_eq_true,Bool.or_eq_true,Bool.not_eq_true'] at hm2
  refine ⟨(key hg.1).1,(key hg.1).2,?_,?_,ht.1⟩
  · rcases hm2 with hm2 | hm2
    · rw [hm2] at hm1
      have:¬ 0 < main.length:=by intro h;simp [h] at hm1
      simp only;omega
    · exact (key hm2.1).1
  · rcases hm2 with hm2 | hm2
    · rw [hm2] at hm1
      have:¬ 0 < main.length:=by intro h;simp [h] at hm1
      have:main = []:=List.eq_nil_of_length_eq_zero (by omega)
      subst this;simp
    · exact (key hm2.1).2
theorem Do_eq {s:ScrT} {l:List ChT} (h:mayScr s = true) (hb:l.length ≤ 1000000):screen_Do s l = foldP l s:=by
  obtain ⟨h1,h2,h3,h4,h5⟩:=may_len h
  obtain ⟨r,c,g,m,row,col,late,⟨pb,pf,pk⟩,top,bot,md,⟨⟨s1r,s1c,⟨s1pb,s1pf,s1pk⟩,s1o,s1l⟩,s2r,s2c,⟨s2pb,s2pf,s2pk⟩,s2o,s2l⟩,⟨t1,t2,t3,t4⟩,ti⟩:=s
  unfold screen_Do
  rw [screen_May_eq (by omega) (by omega),h]
  simp only [Option.bind_some,Bool.not_true,cond_false]
  rw [copied_b13_r,copied_eq h1 h2,copied_eq h3 h4,CloneT_eq (show ti.length ≤ 1000 from Nat.le_trans h5 (by omega))]
  simp only [Option.bind_some]
  rw [req_pos trivial,req_pos trivial,req_pos trivial]
  have:=Do_loop hb l.length 0 (r,c,g,m,row,col,late,(pb,pf,pk),top,bot,md,((s1r,s1c,(s1pb,s1pf,s1pk),s1o,s1l),s2r,s2c,(s2pb,s2pf,s2pk),s2o,s2l),(t1,t2,t3,t4),ti) (by omega)
  rw [List.drop_zero] at this
  erw [this]
  cases foldP l (r,c,g,m,row,col,late,(pb,pf,pk),top,bot,md,((s1r,s1c,(s1pb,s1pf,s1pk),s1o,s1l),s2r,s2c,(s2pb,s2pf,s2pk),s2o,s2l),(t1,t2,t3,t4),ti) with
  | none=>rfl
  | some x=>
    simp only [Option.map_some,Option.bind_some]
    rfl
end Go.SH
namespace Go.SH
/-- A line torn at a place. -/
def tornM (l:List CellT) (a:Int):List CellT:=bif decide (0 < a) && decide (a < l.length) then match l[a.toNat]?,l[a.toNat - 1]? with
    | some c,some d=>bif c.2.2.1 == 2 then (l.set (a.toNat - 1) (blankC d.2.2.2)).set a.toNat (blankC c.2.2.2) else l
    | _,_=>l
  else l
theorem tornM_len (l:List CellT) (a:Int):(tornM l a).length = l.length:=by
  unfold tornM
  cases (decide (0 < a) && decide (a < l.length)) with
  | false=>rfl
  | true=>
    simp only [cond_true]
    split
    · rename_i c d _ _
      cases (c.2.2.1 == 2) <;> simp
    · rfl
theorem torn_eq {l:List CellT} (hl:l.length ≤ 1000) (a:Int):line_torn_ed0 a l = some (tornM l a):=by
  unfold line_torn_ed0 tornM
  by_cases h0:0 < a
  · rw [dec_t h0]
    by_cases h1:a < l.length
    · rw [dec_t h1]
      have e1:a.toNat < l.length:=by omega
      have e2:a.toNat - 1 < l.length:=by omega
      have hw:(IntKind.i64.wrap (a - 1)) = a - 1:=w64id (by omega)
      have hw2:(a - 1).toNat = a.toNat - 1:=by omega
      simp only [cond_true,Bool.and_self,hw,hw2,List.getElem?_eq_getElem e1,List.getElem?_eq_getElem e2,Option.bind_some,line_blank]
      rw [req_pos (by omega)]
      cases hc:(l[a.toNat].2.2.1 == 2) with
      | false=>rfl
      | true=>
        simp only [cond_true,Option.bind_some]
        rw [req_pos (by omega),req_pos (by omega),req_pos (by omega),req_pos (by omega)]
        have e3:a.toNat < (l.set (a.toNat - 1) (32,(0,0),0,0,0,l[a.toNat - 1].2.2.2.2.2)).length:=by simp;omega
        erw [List.getElem?_eq_getElem e3]
        rfl
    · rw [dec_f h1]
      rfl
  · rw [dec_f h0]
    rfl
theorem colsOf_r (c:Int):-1 ≤ colsOf c ∧ colsOf c ≤ 2:=by
  unfold colsOf
  cases colsBad c with
  | true=>exact ⟨by simp,by simp⟩
  | false=>
    simp only [cond_false]
    split
    · rename_i e he
      have hm:=List.mem_of_find?_eq_some he
      have hw:tab_bounds.all (fun e=>decide (0 ≤ e.2.2 ∧ e.2.2 ≤ 2)) = true:=by decide +kernel
      have:=List.all_eq_true.1 hw e hm
      simp only [decide_eq_true_eq] at this
      cases decide (e.1 ≤ c) <;> simp <;> omega
    · omega
/-- A line in which a code point stands. -/
def putM (l:List CellT) (a:Int) (c:Int) (p:PenT):List CellT:=
  bif decide (colsOf c < 1) || (decide (a < 0) || decide (a > l.length - colsOf c)) then l else
    let m:=(tornM (tornM l a) (a + colsOf c)).set a.toNat (c,(0,0),colsOf c - 1,p)
    bif colsOf c == 2 then m.set (a.toNat + 1) (0,(0,0),2,p) else m
theorem Put_eq {l:List CellT} {a c:Int} {p:PenT} (hl:mayLine l = true) (hp:mayPen p = true):line_Put_af7 l a c p = some (putM l a c p):=by
  have hlen:l.length ≤ 1000:=by
    simp only [mayLine,Bool.and_eq_true,decide_eq_true_eq] at hl;exact hl.1
  have hr:=colsOf_r c
  unfold line_Put_af7 putM line_fine
  simp only [line_May_eq,hl,pen_May_eq,hp,cond_true,Option.bind_some,Bool.not_true,cond_false,cols_Of_eq]
  rw [Clone_eq hlen]
  simp only [Option.bind_some]
  have hw:IntKind.i64.wrap ((l.length:Int) - colsOf c) = (l.length:Int) - colsOf c:=w64id (by omega)
  rw [hw]
  cases h1:decide (colsOf c < 1) with
  | true=>simp only [cond_true,Option.bind_some,Bool.true_or];rw [req_pos trivial]
  | false=>
    cases h2:decide (a < 0) with
    | true=>simp only [cond_true,cond_false,Option.bind_some,Bool.true_or,Bool.false_or];rw [req_pos trivial]
    | false=>
      cases h3:decide (a > (l.length:Int) - colsOf c) with
      | true=>simp only [cond_true,cond_false,Option.bind_some,Bool.true_or,Bool.false_or];rw [req_pos trivial]
      | false=>
        simp only [decide_eq_false_iff_not] at h1 h2 h3
        have hw2:IntKind.i64.wrap (a + colsOf c) = a + colsOf c:=w64id (by omega)
        have hw3:IntKind.i64.wrap (colsOf c - 1) = colsOf c - 1:=w64id (by omega)
        have hw4:IntKind.i64.wrap (a + 1) = a + 1:=w64id (by omega)
        have e1:(a + 1).toNat = a.toNat + 1:=by omega
        simp only [cond_false,Option.bind_some,Bool.or_self,hw2,hw3,hw4,e1]
        rw [req_pos trivial,torn_eq hlen]
        simp only [Option.bind_some]
        rw [req_pos (tornM_len l a).symm,torn_eq (by rw [tornM_len];exact hlen)]
        simp only [Option.bind_some]
        rw [req_pos (by omega)]
        have hm:(tornM (tornM l a) (a + colsOf c)).length = l.length:=by rw [tornM_len,tornM_len]
        have e2:a.toNat < (tornM (tornM l a) (a + colsOf c)).length:=by omega
        erw [List.getElem?_eq_getElem e2]
        simp only [Option.bind_some]
        cases h4:(colsOf c == 2) with
        | false=>
          simp only [cond_false,Option.bind_some]
          rw [req_pos (by simp [hm])]
        | true=>
          simp only [beq_iff_eq] at h4
          simp only [cond_true,Option.bind_some]
          rw [req_pos (by omega)]
          have e3:a.toNat + 1 < ((tornM (tornM l a) (a + colsOf c)).set a.toNat (c,(0,0),colsOf c - 1,p)).length:=by simp;omega
          erw [List.getElem?_eq_getElem e3]
          simp only [Option.bind_some]
          rw [req_pos (by simp [hm])]
end Go.SH
namespace Go.SH
/-- One cell more: the pen of a letter of which one half has come. -/
def cellSt (p:Option PenT) (c:CellT):Option (Option PenT):=
  if mayCell c = true ∧ p.isSome = (c.2.2.1 == 2) ∧ (∀ q,p = some q → q = c.2.2.2) then some (if c.2.2.1 = 1 then some c.2.2.2 else none) else none
def lineRun:Option PenT → List CellT → Option (Option PenT)
  | p,[]=>some p
  | p,c :: r=>(cellSt p c).bind fun q=>lineRun q r
/-- A piece of a line that begins and ends between letters. -/
def seg (l:List CellT):Prop:=lineRun none l = some none
theorem lineRun_app:∀ (a b:List CellT) (p:Option PenT),lineRun p (a ++ b) = (lineRun p a).bind fun q=>lineRun q b
  | [],b,p=>rfl
  | c :: a,b,p=>by
    simp only [List.cons_append,lineRun]
    cases cellSt p c with
    | none=>rfl
    | some q=>simp only [Option.bind_some];exact lineRun_app a b q
theorem seg_app {a b:List CellT} (ha:seg a) (hb:seg b):seg (a ++ b):=by
  unfold seg at *;rw [lineRun_app,ha];exact hb
theorem seg_right {a b:List CellT} (ha:seg a) (h:seg (a ++ b)):seg b:=by
  unfold seg at *;rw [lineRun_app,ha] at h;exact h
/-- What the cell ahead says. -/
def penSt (l:List CellT):Option PenT:=match l.getLast? with
  | some d=>if d.2.2.1 = 1 then some d.2.2.2 else none
  | none=>none
theorem cellSt_iff {p q:Option PenT} {c:CellT}:cellSt p c = some q ↔ (mayCell c = true ∧ p.isSome = (c.2.2.1 == 2) ∧ (∀ q,p = some q → q = c.2.2.2)) ∧ q = (if c.2.2.1 = 1 then some c.2.2.2 else none):=by
  unfold cellSt
  by_cases h:mayCell c = true ∧ p.isSome = (c.2.2.1 == 2) ∧ (∀ q,p = some q → q = c.2.2.2)
  · rw [if_pos h];simp only [Option.some.injEq]
    exact ⟨fun e=>⟨h,e.symm⟩,fun e=>e.2.symm⟩
  · rw [if_neg h]
    simp only [reduceCtorEq,false_iff]
    exact fun e=>h e.1
theorem penSt_snoc (l:List CellT) (c:CellT):penSt (l ++ [c]) = if c.2.2.1 = 1 then some c.2.2.2 else none:=by simp [penSt]
/-- One place of a line, told by the cell ahead. -/
theorem okAt_iff {pre r:List CellT} {c:CellT}:okAt (pre ++ c :: r) pre.length = true ↔ (∃ q,cellSt (penSt pre) c = some q) ∧ (r = [] → ¬ c.2.2.1 = 1):=by
  have e1:(pre ++ c :: r)[pre.length]? = some c:=by simp
  have hlast:(pre.length + 1 == (pre ++ c :: r).length) = decide (r = []):=by
    rw [Bool.eq_iff_iff]
    simp only [beq_iff_eq,List.length_append,List.length_cons,decide_eq_true_eq]
    constructor
    · intro h;exact List.eq_nil_of_length_eq_zero (by omega)
    · intro h;subst h;simp
  have key:okAt (pre ++ c :: r) pre.length = (mayCell c && (((penSt pre).isSome == (c.2.2.1 == 2)) && ((match penSt pre with | some q=>q == c.2.2.2 | none=>true) && !((c.2.2.1 == 1) && decide (r = []))))):=by
    unfold okAt
    simp only [e1,hlast]
    rcases List.eq_nil_or_concat pre with rfl | ⟨pre',d,rfl⟩
    · simp [penSt]
    · rw [List.concat_eq_append]
      have e2:(pre' ++ [d] ++ c :: r)[(pre' ++ [d]).length - 1]? = some d:=by simp
      have h0:decide (0 < (pre' ++ [d]).length) = true:=by simp
      simp only [e2,h0,Bool.true_and,penSt_snoc]
      by_cases hd:d.2.2.1 = 1
      · simp [hd]
      · have:(d.2.2.1 == 1) = false:=by simpa using hd
        simp [this,hd]
  rw [key]
  simp only [Bool.and_eq_true,beq_iff_eq,Bool.not_eq_true',Bool.and_eq_false_iff,beq_eq_false_iff_ne,decide_eq_false_iff_not]
  have hq:(match penSt pre with | some q=>q == c.2.2.2 | none=>true) = true ↔ ∀ q,penSt pre = some q → q = c.2.2.2:=by
    cases penSt pre with
    | none=>simp
    | some q=>simp
  rw [hq]
  constructor
  · rintro ⟨h1,h2,h3,h4⟩
    refine ⟨⟨_,cellSt_iff.2 ⟨⟨h1,h2,h3⟩,rfl⟩⟩,fun hr h=>?_⟩
    rcases h4 with h4 | h4
    · exact h4 h
    · exact h4 hr
  · rintro ⟨⟨q,hq⟩,h4⟩
    obtain ⟨⟨h1,h2,h3⟩,_⟩:=cellSt_iff.1 hq
    refine ⟨h1,h2,h3,?_⟩
    by_cases hr:r = []
    · exact .inl (h4 hr)
    · exact .inr hr
theorem ok_run:∀ (r:List CellT) (pre:List CellT),r ≠ [] → ((∀ i,pre.length ≤ i → i < (pre ++ r).length → okAt (pre ++ r) i = true) ↔ lineRun (penSt pre) r = some none)
  | [],pre,h=>absurd rfl h
  | [c],pre,_=>by
    simp only [lineRun]
    constructor
    · intro h
      have h1:=h pre.length (Nat.le_refl _) (by simp)
      obtain ⟨⟨q,hq⟩,h3⟩:=okAt_iff.1 h1
      rw [hq]
      have:=(cellSt_iff.1 hq).2
      rw [if_neg (h3 rfl)] at this
      subst this;rfl
    · intro h i hi hl
      have:i = pre.length:=by simp at hl;omega
      subst this
      cases hq:cellSt (penSt pre) c with
      | none=>rw [hq] at h;simp at h
      | some q=>
        rw [hq] at h;simp at h;subst h
        refine okAt_iff.2 ⟨⟨_,hq⟩,fun _ h1=>?_⟩
        have:=(cellSt_iff.1 hq).2
        rw [if_pos h1] at this;simp at this
  | c :: d :: r,pre,_=>by
    have ih:=ok_run (d :: r) (pre ++ [c]) (by simp)
    rw [penSt_snoc] at ih
    rw [show (pre ++ [c] ++ d :: r) = pre ++ c :: d :: r from by simp] at ih
    rw [lineRun]
    constructor
    · intro h
      obtain ⟨⟨q,hq⟩,_⟩:=okAt_iff.1 (h pre.length (Nat.le_refl _) (by simp))
      rw [hq]
      have hq2:=(cellSt_iff.1 hq).2
      subst hq2
      exact ih.1 fun i hi hl=>h i (by simp at hi;omega) hl
    · intro h
      cases hq:cellSt (penSt pre) c with
      | none=>rw [hq] at h;simp at h
      | some q=>
        rw [hq] at h;simp only [Option.bind_some] at h
        have hq2:=(cellSt_iff.1 hq).2
        subst hq2
        intro i hi hl
        by_cases e:i = pre.length
        · subst e;exact okAt_iff.2 ⟨⟨_,hq⟩,by simp⟩
        · exact ih.2 h i (by simp;omega) hl
theorem mayLine_iff {l:List CellT}:mayLine l = true ↔ l.length ≤ 1000 ∧ seg l:=by
  unfold mayLine
  rw [Bool.and_eq_true,decide_eq_true_eq,List.all_eq_true]
  refine and_congr_right fun _=>?_
  cases l with
  | nil=>simp [seg,lineRun]
  | cons c r=>
    have:=ok_run (c :: r) [] (by simp)
    simp only [List.nil_append,List.length_nil,Nat.zero_le,true_implies] at this
    rw [show penSt [] = none from rfl] at this
    unfold seg
    rw [← this]
    constructor
    · intro h i hi;exact h i (List.mem_range.2 hi)
    · intro h i hi;exact h i (List.mem_range.1 hi)
theorem blank_may {p:PenT} (hp:mayPen p = true):mayCell (blankC p) = true:=by
  have:colsOf 32 = 1:=by decide +kernel
  simp only [mayPen,Bool.and_eq_true,decide_eq_true_eq] at hp
  have h2:mayPen (0,0,p.2.2) = true:=by simp [mayPen];omega
  unfold mayCell blankC
  simp only [this,h2]
  rfl
theorem blank_step {p:PenT} (hp:mayPen p = true):cellSt none (blankC p) = some none:=cellSt_iff.2 ⟨⟨blank_may hp,rfl,by simp⟩,rfl⟩
theorem blank_seg {p:PenT} (hp:mayPen p = true):∀ n,seg (List.replicate n (blankC p))
  | 0=>rfl
  | n + 1=>by
    unfold seg
    rw [List.replicate_succ,lineRun,blank_step hp]
    exact blank_seg hp n
theorem cell_pen {c:CellT} (h:mayCell c = true):mayPen c.2.2.2 = true:=by
  unfold mayCell at h
  cases hb:((c.2.2.1 == 0) || (c.2.2.1 == 1)) <;> rw [hb] at h <;> simp only [cond_true,cond_false,Bool.and_eq_true] at h
  · exact h.2.1
  · exact h.1
/-- A line torn at a place, in parts. -/
theorem torn_parts {l:List CellT} (hl:seg l) {a:Nat} (h0:0 < a) (h1:a < l.length):seg ((tornM l a).take a) ∧ seg ((tornM l a).drop a):=by
  have e1:l[((a:Nat):Int).toNat]? = some l[a]:=by simp [h1]
  have e2:l[((a:Nat):Int).toNat - 1]? = some l[a - 1]:=by simp
  have hsplit:l = l.take a ++ l.drop a:=(List.take_append_drop a l).symm
  obtain ⟨q,hq1,hq2⟩:∃ q,lineRun none (l.take a) = some q ∧ lineRun q (l.drop a) = some none:=by
    unfold seg at hl
    rw [hsplit,lineRun_app] at hl
    exact Option.bind_eq_some_iff.1 hl
  have hd:l.drop a = l[a] :: l.drop (a + 1):=List.drop_eq_getElem_cons h1
  rw [hd,lineRun] at hq2
  obtain ⟨q',hs,hr⟩:=Option.bind_eq_some_iff.1 hq2
  obtain ⟨⟨m1,m2,m3⟩,m4⟩:=cellSt_iff.1 hs
  unfold tornM
  rw [dec_t (by omega:(0:Int) < (a:Int)),dec_t (by omega:(a:Int) < (l.length:Int))]
  simp only [Bool.and_self,cond_true,e1,e2]
  cases hh:(l[a].2.2.1 == 2) with
  | false=>
    rw [hh] at m2
    have:q = none:=by simpa using m2
    subst this
    simp only [cond_false]
    refine ⟨hq1,?_⟩
    unfold seg;rw [hd,lineRun,hs];exact hr
  | true=>
    rw [hh] at m2
    obtain ⟨p,rfl⟩:=Option.isSome_iff_exists.1 m2
    simp only [cond_true,Int.toNat_natCast]
    have ht:l.take a = l.take (a - 1) ++ [l[a - 1]]:=by
      have:a = a - 1 + 1:=by omega
      conv=>lhs;rw [this]
      exact List.take_succ_eq_append_getElem (by omega)
    rw [ht,lineRun_app] at hq1
    obtain ⟨q0,hq0,hq1⟩:=Option.bind_eq_some_iff.1 hq1
    simp only [lineRun] at hq1
    obtain ⟨q1,hs1,hq1⟩:=Option.bind_eq_some_iff.1 hq1
    simp at hq1;subst hq1
    obtain ⟨⟨k1,k2,k3⟩,k4⟩:=cellSt_iff.1 hs1
    have hh1:l[a - 1].2.2.1 = 1:=by
      by_cases h:l[a - 1].2.2.1 = 1
      · exact h
      · rw [if_neg h] at k4;simp at k4
    have hq0':q0 = none:=by
      rw [hh1] at k2
      simpa using k2
    subst hq0'
    have hq':q' = none:=by
      rw [m4]
      have:l[a].2.2.1 = 2:=by simpa using hh
      rw [if_neg (by omega)]
    subst hq'
    have t1:((l.set (a - 1) (blankC l[a - 1].2.2.2)).set a (blankC l[a].2.2.2)).take a = l.take (a - 1) ++ [blankC l[a - 1].2.2.2]:=by
      rw [List.take_set_of_le (by omega)]
      rw [show (l.set (a - 1) (blankC l[a - 1].2.2.2)).take a = (l.set (a - 1) (blankC l[a - 1].2.2.2)).take (a - 1 + 1) from by rw [Nat.sub_add_cancel h0]]
      rw [List.take_succ_eq_append_getElem (by simp;omega),List.take_set_of_le (Nat.le_refl _)]
      simp
    have t2:((l.set (a - 1) (blankC l[a - 1].2.2.2)).set a (blankC l[a].2.2.2)).drop a = blankC l[a].2.2.2 :: l.drop (a + 1):=by
      rw [List.drop_eq_getElem_cons (by simp;exact h1)]
      simp only [List.getElem_set_self]
      rw [List.drop_set_of_lt (by omega),List.drop_set_of_lt (by omega)]
    rw [t1,t2]
    refine ⟨seg_app hq0 (blank_seg (cell_pen k1) 1),?_⟩
    unfold seg
    rw [lineRun,blank_step (cell_pen m1)]
    exact hr
theorem tornM_out {l:List CellT} {a:Int} (h:¬ (0 < a ∧ a < l.length)):tornM l a = l:=by
  unfold tornM
  by_cases h0:0 < a
  · rw [dec_t h0,dec_f (fun h1=>h ⟨h0,h1⟩)];rfl
  · rw [dec_f h0];rfl
theorem torn_seg {l:List CellT} (hl:seg l) (a:Int):seg (tornM l a):=by
  by_cases h:0 < a ∧ a < l.length
  · obtain ⟨k,rfl⟩:∃ k:Nat,a = k:=⟨a.toNat,by omega⟩
    obtain ⟨h1,h2⟩:=torn_parts hl (a:=k) (by omega) (by omega)
    have:=seg_app h1 h2
    rwa [List.take_append_drop] at this
  · rw [tornM_out h];exact hl
/-- Torn there, a line parts there. -/
theorem torn_take {l:List CellT} (hl:seg l) {a:Nat} (h:a ≤ l.length):seg ((tornM l a).take a):=by
  by_cases h0:0 < a ∧ a < l.length
  · exact (torn_parts hl h0.1 h0.2).1
  · rw [tornM_out (by omega)]
    by_cases e:a = 0
    · subst e;exact rfl
    · rw [List.take_of_length_le (by omega)];exact hl
theorem torn_drop {l:List CellT} (hl:seg l) {a:Nat} (h:a ≤ l.length):seg ((tornM l a).drop a):=
  seg_right (torn_take hl h) (by rw [List.take_append_drop];exact torn_seg hl a)
/-- Ahead of the place it is as it was. -/
theorem tornM_take {l:List CellT} {a:Int} {b:Nat} (h:(b:Int) < a):(tornM l a).take b = l.take b:=by
  unfold tornM
  cases (decide (0 < a) && decide (a < l.length)) with
  | false=>rfl
  | true=>
    simp only [cond_true]
    split
    · rename_i c d _ _
      cases (c.2.2.1 == 2) with
      | false=>rfl
      | true=>
        simp only [cond_true]
        rw [List.take_set_of_le (by omega),List.take_set_of_le (by omega)]
    · rfl
/-- Torn at two places, the second one not ahead of the first one: it parts at both. -/
theorem torn_two {l:List CellT} (hl:seg l) {a b:Nat} (hab:a ≤ b) (hb:b ≤ l.length):seg ((tornM (tornM l a) b).take a) ∧ seg ((tornM (tornM l a) b).drop b) ∧ seg (((tornM (tornM l a) b).drop a).take (b - a)) ∧ seg ((tornM (tornM l a) b).drop a):=by
  have h1:seg ((tornM (tornM l a) b).take a):=by
    by_cases e:a = b
    · subst e;exact torn_take (torn_seg hl _) (by rw [tornM_len];exact hb)
    · rw [tornM_take (by omega)];exact torn_take hl (by omega)
  have h2:seg ((tornM (tornM l a) b).drop b):=torn_drop (torn_seg hl _) (by rw [tornM_len];exact hb)
  have h3:seg ((tornM (tornM l a) b).take b):=torn_take (torn_seg hl _) (by rw [tornM_len];exact hb)
  refine ⟨h1,h2,?_,?_⟩
  · have e:(tornM (tornM l a) b).take b = (tornM (tornM l a) b).take a ++ ((tornM (tornM l a) b).drop a).take (b - a):=by
      rw [← List.take_add];congr 1;omega
    rw [e] at h3
    exact seg_right h1 h3
  · exact seg_right h1 (by rw [List.take_append_drop];exact torn_seg (torn_seg hl _) _)
end Go.SH
namespace Go.SH
theorem blankL_len (n:Nat) (p:PenT):(blankL n p).length = n:=by simp [blankL]
theorem blankL_seg {p:PenT} (hp:mayPen p = true) (n:Nat):seg (blankL n p):=blank_seg hp n
def low0 (f:Int):Int:=if f > 0 then f else 0
def hiL (l:List CellT) (t:Int):Int:=if (l.length:Int) < t then (l.length:Int) else t
theorem low0_r (f:Int):0 ≤ low0 f:=by unfold low0;split <;> omega
theorem hiL_r (l:List CellT) (t:Int):hiL l t ≤ l.length:=by unfold hiL;split <;> omega
/-- Erased from one place to another one. -/
def eraseN (l:List CellT) (F T:Nat) (p:PenT):List CellT:=(tornM (tornM l F) T).take F ++ (blankL (T - F) p ++ (tornM (tornM l F) T).drop T)
def eraseM (l:List CellT) (f t:Int) (p:PenT):List CellT:=if low0 f ≥ hiL l t then l else eraseN l (low0 f).toNat (hiL l t).toNat p
def fewer (l:List CellT) (a n:Int):Int:=if (l.length:Int) - a < n then (l.length:Int) - a else n
def insertN (l:List CellT) (A k:Nat) (p:PenT):List CellT:=
  (tornM (tornM l A) ((l.length - k:Nat):Int)).take A ++ (blankL k p ++ ((tornM (tornM l A) ((l.length - k:Nat):Int)).drop A).take (l.length - k - A))
def noIns (l:List CellT) (a n:Int):Bool:=decide (n < 1) || (decide (a < 0) || decide (a ≥ l.length))
def insertM (l:List CellT) (a n:Int) (p:PenT):List CellT:=bif noIns l a n then l else insertN l a.toNat (fewer l a n).toNat p
def deleteN (l:List CellT) (A k:Nat) (p:PenT):List CellT:=
  (tornM (tornM l A) ((A + k:Nat):Int)).take A ++ ((tornM (tornM l A) ((A + k:Nat):Int)).drop (A + k) ++ blankL k p)
def deleteM (l:List CellT) (a n:Int) (p:PenT):List CellT:=bif noIns l a n then l else deleteN l a.toNat (fewer l a n).toNat p
def fitM (l:List CellT) (n:Nat):List CellT:=(tornM l n).take (min n l.length) ++ blankL (n - min n l.length) (0,0,0)
def markC (x:CellT) (c:Int):CellT:=if x.2.1.1 = 0 then (x.1,(c,x.2.1.2),x.2.2) else if x.2.1.2 = 0 then (x.1,(x.2.1.1,c),x.2.2) else x
def markAt (l:List CellT) (a:Nat):Nat:=match l[a]? with
  | some x=>if x.2.2.1 = 2 then a - 1 else a
  | none=>a
def noMark (l:List CellT) (a c:Int):Bool:=decide (a < 0) || (decide (a ≥ l.length) || (colsOf c != 0))
def markN (l:List CellT) (b:Nat) (c:Int):List CellT:=match l[b]? with
  | some x=>l.set b (markC x c)
  | none=>l
def markM (l:List CellT) (a c:Int):List CellT:=bif noMark l a c then l else markN l (markAt l a.toNat) c
theorem may_len1 {l:List CellT} (h:mayLine l = true):l.length ≤ 1000:=(mayLine_iff.1 h).1
theorem eraseN_may {l:List CellT} {F T:Nat} {p:PenT} (hl:mayLine l = true) (hp:mayPen p = true) (h1:F ≤ T) (h2:T ≤ l.length):mayLine (eraseN l F T p) = true ∧ (eraseN l F T p).length = l.length:=by
  obtain ⟨hn,hs⟩:=mayLine_iff.1 hl
  obtain ⟨a1,a2,_,_⟩:=torn_two hs h1 h2
  have hlen:(eraseN l F T p).length = l.length:=by
    unfold eraseN
    simp only [List.length_append,List.length_take,List.length_drop,blankL_len,tornM_len];omega
  exact ⟨mayLine_iff.2 ⟨by omega,seg_app a1 (seg_app (blankL_seg hp _) a2)⟩,hlen⟩
theorem eraseM_may {l:List CellT} {f t:Int} {p:PenT} (hl:mayLine l = true) (hp:mayPen p = true):mayLine (eraseM l f t p) = true ∧ (eraseM l f t p).length = l.length:=by
  unfold eraseM
  have h1:=low0_r f
  have h2:=hiL_r l t
  split
  · exact ⟨hl,rfl⟩
  · exact eraseN_may hl hp (by omega) (by omega)
theorem insertN_may {l:List CellT} {A k:Nat} {p:PenT} (hl:mayLine l = true) (hp:mayPen p = true) (h:A + k ≤ l.length):mayLine (insertN l A k p) = true ∧ (insertN l A k p).length = l.length:=by
  obtain ⟨hn,hs⟩:=mayLine_iff.1 hl
  obtain ⟨a1,_,a3,_⟩:=torn_two hs (a:=A) (b:=l.length - k) (by omega) (by omega)
  have hlen:(insertN l A k p).length = l.length:=by
    unfold insertN
    simp only [List.length_append,List.length_take,List.length_drop,blankL_len,tornM_len];omega
  exact ⟨mayLine_iff.2 ⟨by omega,seg_app a1 (seg_app (blankL_seg hp _) a3)⟩,hlen⟩
theorem fewer_r {l:List CellT} {a n:Int} (h:noIns l a n = false):1 ≤ n ∧ 0 ≤ a ∧ a < l.length ∧ 1 ≤ fewer l a n ∧ fewer l a n ≤ l.length - a:=by
  simp only [noIns,Bool.or_eq_false_iff,decide_eq_false_iff_not] at h
  unfold fewer
  refine ⟨by omega,by omega,by omega,?_⟩
  split <;> omega
theorem insertM_may {l:List CellT} {a n:Int} {p:PenT} (hl:mayLine l = true) (hp:mayPen p = true):mayLine (insertM l a n p) = true ∧ (insertM l a n p).length = l.length:=by
  unfold insertM
  cases h:noIns l a n with
  | true=>exact ⟨hl,rfl⟩
  | false=>
    have:=fewer_r h
    exact insertN_may hl hp (by omega)
theorem deleteN_may {l:List CellT} {A k:Nat} {p:PenT} (hl:mayLine l = true) (hp:mayPen p = true) (h:A + k ≤ l.length):mayLine (deleteN l A k p) = true ∧ (deleteN l A k p).length = l.length:=by
  obtain ⟨hn,hs⟩:=mayLine_iff.1 hl
  obtain ⟨a1,a2,_,_⟩:=torn_two hs (a:=A) (b:=A + k) (by omega) (by omega)
  have hlen:(deleteN l A k p).length = l.length:=by
    unfold deleteN
    simp only [List.length_append,List.length_take,List.length_drop,blankL_len,tornM_len];omega
  exact ⟨mayLine_iff.2 ⟨by omega,seg_app a1 (seg_app a2 (blankL_seg hp _))⟩,hlen⟩
theorem deleteM_may {l:List CellT} {a n:Int} {p:PenT} (hl:mayLine l = true) (hp:mayPen p = true):mayLine (deleteM l a n p) = true ∧ (deleteM l a n p).length = l.length:=by
  unfold deleteM
  cases h:noIns l a n with
  | true=>exact ⟨hl,rfl⟩
  | false=>
    have:=fewer_r h
    exact deleteN_may hl hp (by omega)
theorem fitM_may {l:List CellT} {n:Nat} (hl:mayLine l = true) (hn:n ≤ 1000):mayLine (fitM l n) = true ∧ (fitM l n).length = n:=by
  obtain ⟨h1,hs⟩:=mayLine_iff.1 hl
  have hlen:(fitM l n).length = n:=by
    unfold fitM
    simp only [List.length_append,List.length_take,blankL_len,tornM_len];omega
  have hp:mayPen (0,0,0) = true:=by decide
  refine ⟨mayLine_iff.2 ⟨by omega,seg_app ?_ (blankL_seg hp _)⟩,hlen⟩
  by_cases h:n ≤ l.length
  · rw [Nat.min_eq_left h];exact torn_take hs h
  · rw [Nat.min_eq_right (by omega),tornM_out (by omega),List.take_of_length_le (Nat.le_refl _)];exact hs
/-- A cell in another one's place, of the same half and pen. -/
theorem seg_set {l:List CellT} {b:Nat} {x y:CellT} (hl:seg l) (hx:l[b]? = some x) (h1:mayCell y = true) (h2:y.2.2 = x.2.2):seg (l.set b y):=by
  have hb:b < l.length:=(List.getElem?_eq_some_iff.1 hx).1
  have hxe:l[b] = x:=(List.getElem?_eq_some_iff.1 hx).2
  have e1:l = l.take b ++ x :: l.drop (b + 1):=by rw [← hxe,← List.drop_eq_getElem_cons hb,List.take_append_drop]
  have e2:l.set b y = l.take b ++ y :: l.drop (b + 1):=List.set_eq_take_append_cons_drop.trans (if_pos hb)
  unfold seg at *
  rw [e1,lineRun_app] at hl
  rw [e2,lineRun_app]
  obtain ⟨q,hq,hl⟩:=Option.bind_eq_some_iff.1 hl
  rw [hq,Option.bind_some]
  simp only [lineRun] at hl ⊢
  obtain ⟨q2,hq2,hl⟩:=Option.bind_eq_some_iff.1 hl
  obtain ⟨⟨c1,c2,c3⟩,c4⟩:=cellSt_iff.1 hq2
  have:cellSt q y = some q2:=cellSt_iff.2 ⟨⟨h1,by rw [h2];exact c2,fun r hr=>by rw [h2];exact c3 r hr⟩,by rw [h2];exact c4⟩
  rw [this];exact hl
theorem seg_cell {l:List CellT} {b:Nat} {x:CellT} (hl:seg l) (hx:l[b]? = some x):mayCell x = true:=by
  have hb:b < l.length:=(List.getElem?_eq_some_iff.1 hx).1
  have hxe:l[b] = x:=(List.getElem?_eq_some_iff.1 hx).2
  have e1:l = l.take b ++ x :: l.drop (b + 1):=by rw [← hxe,← List.drop_eq_getElem_cons hb,List.take_append_drop]
  unfold seg at *
  rw [e1,lineRun_app] at hl
  obtain ⟨q,hq,hl⟩:=Option.bind_eq_some_iff.1 hl
  simp only [lineRun] at hl
  obtain ⟨q2,hq2,hl⟩:=Option.bind_eq_some_iff.1 hl
  exact (cellSt_iff.1 hq2).1.1
/-- Ahead of the half of a letter stands the other one. -/
theorem half_ahead {l:List CellT} {b:Nat} {x:CellT} (hl:seg l) (hx:l[b]? = some x) (h2:x.2.2.1 = 2):0 < b ∧ ∃ y,l[b - 1]? = some y ∧ y.2.2.1 = 1:=by
  have hb:b < l.length:=(List.getElem?_eq_some_iff.1 hx).1
  have hxe:l[b] = x:=(List.getElem?_eq_some_iff.1 hx).2
  have e1:l = l.take b ++ x :: l.drop (b + 1):=by rw [← hxe,← List.drop_eq_getElem_cons hb,List.take_append_drop]
  have hrun:=hl
  unfold seg at hrun
  rw [e1,lineRun_app] at hrun
  obtain ⟨q,hq,hrun⟩:=Option.bind_eq_some_iff.1 hrun
  simp only [lineRun] at hrun
  obtain ⟨q2,hq2,hrun⟩:=Option.bind_eq_some_iff.1 hrun
  have c2:=(cellSt_iff.1 hq2).1.2.1
  rw [h2] at c2
  obtain ⟨p,rfl⟩:=Option.isSome_iff_exists.1 c2
  have h0:0 < b:=by
    rcases Nat.eq_zero_or_pos b with e | e
    · subst e;simp [lineRun] at hq
    · exact e
  refine ⟨h0,l[b - 1],by simp,?_⟩
  have ht:l.take b = l.take (b - 1) ++ [l[b - 1]]:=by
    rw [show l.take b = l.take (b - 1 + 1) from by rw [Nat.sub_add_cancel h0]]
    exact List.take_succ_eq_append_getElem (by omega)
  rw [ht,lineRun_app] at hq
  obtain ⟨q0,hq0,hq⟩:=Option.bind_eq_some_iff.1 hq
  simp only [lineRun] at hq
  obtain ⟨q1,hs1,hq⟩:=Option.bind_eq_some_iff.1 hq
  simp at hq;subst hq
  have k4:=(cellSt_iff.1 hs1).2
  by_cases h:l[b - 1].2.2.1 = 1
  · exact h
  · rw [if_neg h] at k4;simp at k4
theorem markC_may {x:CellT} {c:Int} (hx:mayCell x = true) (h2:x.2.2.1 ≠ 2) (hc:colsOf c = 0):mayCell (markC x c) = true ∧ (markC x c).2.2 = x.2.2:=by
  have hc0:c ≠ 0:=by intro e;subst e;have:colsOf 0 = -1:=by decide +kernel
                     omega
  have hs:(markC x c).2.2 = x.2.2 ∧ (markC x c).1 = x.1:=by
    unfold markC;split
    · exact ⟨rfl,rfl⟩
    · split <;> exact ⟨rfl,rfl⟩
  refine ⟨?_,hs.1⟩
  unfold mayCell at hx ⊢
  rw [hs.1,hs.2]
  have hb:((x.2.2.1 == 0) || (x.2.2.1 == 1)) = true:=by
    cases hb:((x.2.2.1 == 0) || (x.2.2.1 == 1)) with
    | true=>rfl
    | false=>
      rw [hb] at hx
      simp only [cond_false,Bool.and_eq_true,beq_iff_eq] at hx
      exact absurd hx.1 h2
  rw [hb] at hx ⊢
  simp only [cond_true,Bool.and_eq_true] at hx ⊢
  refine ⟨hx.1,hx.2.1,?_⟩
  have hm:=hx.2.2
  unfold markedM at hm ⊢
  unfold markC
  by_cases m0:x.2.1.1 = 0
  · rw [m0] at hm
    simp only [beq_self_eq_true,cond_true] at hm
    rw [if_pos m0]
    have:(c == 0) = false:=by simpa using hc0
    simp only [this,cond_false,hc,beq_self_eq_true,hm,Bool.true_or,Bool.and_self]
  · rw [if_neg m0]
    have e0:(x.2.1.1 == 0) = false:=by simpa using m0
    rw [e0] at hm
    simp only [cond_false,Bool.and_eq_true] at hm
    split
    · rename_i m1
      simp only [e0,cond_false,hm.1,hc,beq_self_eq_true,Bool.or_true,Bool.and_self]
    · simp only [e0,cond_false,Bool.and_eq_true]
      exact hm
theorem markAt_cell {l:List CellT} {a:Nat} (hl:seg l) (ha:a < l.length):∃ x,l[markAt l a]? = some x ∧ x.2.2.1 ≠ 2:=by
  have hx:l[a]? = some l[a]:=List.getElem?_eq_getElem ha
  unfold markAt
  rw [hx]
  simp only
  split
  · rename_i h2
    obtain ⟨_,y,h3,h4⟩:=half_ahead hl hx h2
    exact ⟨y,h3,by omega⟩
  · rename_i h2;exact ⟨_,hx,h2⟩
theorem markM_may {l:List CellT} {a c:Int} (hl:mayLine l = true):mayLine (markM l a c) = true ∧ (markM l a c).length = l.length:=by
  obtain ⟨hn,hs⟩:=mayLine_iff.1 hl
  unfold markM
  cases h:noMark l a c with
  | true=>exact ⟨hl,rfl⟩
  | false=>
    simp only [noMark,Bool.or_eq_false_iff,decide_eq_false_iff_not,bne_eq_false_iff_eq] at h
    obtain ⟨x,h1,h2⟩:=markAt_cell hs (a:=a.toNat) (by omega)
    obtain ⟨k1,k2⟩:=markC_may (seg_cell hs h1) h2 h.2.2
    simp only [cond_false,markN,h1]
    exact ⟨mayLine_iff.2 ⟨by simpa using hn,seg_set hs h1 k1 k2⟩,by simp⟩
theorem putM_may {l:List CellT} {a c:Int} {p:PenT} (hl:mayLine l = true) (hp:mayPen p = true):mayLine (putM l a c p) = true ∧ (putM l a c p).length = l.length:=by
  obtain ⟨hn,hs⟩:=mayLine_iff.1 hl
  have hr:=colsOf_r c
  have hlen:(putM l a c p).length = l.length:=by
    unfold putM
    cases (decide (colsOf c < 1) || (decide (a < 0) || decide (a > l.length - colsOf c))) with
    | true=>rfl
    | false=>
      cases (colsOf c == 2) <;> simp [tornM_len]
  refine ⟨mayLine_iff.2 ⟨by omega,?_⟩,hlen⟩
  unfold putM
  cases hb:(decide (colsOf c < 1) || (decide (a < 0) || decide (a > l.length - colsOf c))) with
  | true=>exact hs
  | false=>
    simp only [Bool.or_eq_false_iff,decide_eq_false_iff_not] at hb
    obtain ⟨h1,h2,h3⟩:=hb
    simp only [cond_false]
    obtain ⟨A,rfl⟩:∃ k:Nat,a = k:=⟨a.toNat,by omega⟩
    have hm0:markedM (0,0) = true:=by rfl
    rcases (by omega:colsOf c = 1 ∨ colsOf c = 2) with hc | hc
    · rw [hc] at h3 ⊢
      simp only [show ((1:Int) == 2) = false from rfl,cond_false,Int.toNat_natCast]
      obtain ⟨a1,a2,_,_⟩:=torn_two hs (a:=A) (b:=A + 1) (by omega) (by omega)
      have e:((A + 1:Nat):Int) = (A:Int) + 1:=by omega
      rw [e] at a1 a2
      have hlt:A < (tornM (tornM l A) ((A:Int) + 1)).length:=by rw [tornM_len,tornM_len];omega
      rw [List.set_eq_take_append_cons_drop,if_pos hlt]
      have hcell:mayCell (c,(0,0),1 - 1,p) = true:=by
        unfold mayCell
        simp [hp,hc,hm0]
      refine seg_app a1 (seg_app (a:=[(c,(0,0),1 - 1,p)]) ?_ a2)
      unfold seg
      rw [lineRun,cellSt_iff.2 ⟨⟨hcell,rfl,by simp⟩,rfl⟩]
      rfl
    · rw [hc] at h3 ⊢
      simp only [show ((2:Int) == 2) = true from rfl,cond_true,Int.toNat_natCast]
      obtain ⟨a1,a2,_,_⟩:=torn_two hs (a:=A) (b:=A + 2) (by omega) (by omega)
      have e:((A + 2:Nat):Int) = (A:Int) + 2:=by omega
      rw [e] at a1 a2
      have hlt:A < (tornM (tornM l A) ((A:Int) + 2)).length:=by rw [tornM_len,tornM_len];omega
      have hlt2:A + 1 < ((tornM (tornM l A) ((A:Int) + 2)).set A (c,(0,0),2 - 1,p)).length:=by simp [tornM_len];omega
      rw [List.set_eq_take_append_cons_drop (i:=A + 1),if_pos hlt2,List.take_set,List.drop_set_of_lt (by omega)]
      have hcell:mayCell (c,(0,0),2 - 1,p) = true:=by
        unfold mayCell
        simp [hp,hc,hm0]
      have hcell2:mayCell (0,(0,0),2,p) = true:=by
        unfold mayCell
        simp [hp]
      have et:((tornM (tornM l A) ((A:Int) + 2)).take (A + 1)).set A (c,(0,0),2 - 1,p) = (tornM (tornM l A) ((A:Int) + 2)).take A ++ [(c,(0,0),2 - 1,p)]:=by
        rw [List.take_succ_eq_append_getElem hlt,List.set_append_right _ _ (by rw [List.length_take];exact Nat.min_le_left _ _)]
        have:A - (List.take A (tornM (tornM l A) ((A:Int) + 2))).length = 0:=by rw [List.length_take];omega
        rw [this];rfl
      rw [et,List.append_assoc]
      refine seg_app a1 (seg_app (a:=[(c,(0,0),2 - 1,p),(0,(0,0),2,p)]) ?_ a2)
      unfold seg
      rw [lineRun,cellSt_iff.2 ⟨⟨hcell,rfl,by simp⟩,rfl⟩]
      simp only [Option.bind_some]
      rw [lineRun,cellSt_iff.2 ⟨⟨hcell2,rfl,fun q hq=>by simpa using hq.symm⟩,rfl⟩]
      rfl
end Go.SH
namespace Go.SH
theorem cpy_blank {m:List CellT} {a k n:Nat} {p:PenT} (h:k = n):cpy m a (blankL k p) (min (blankL k p).length n) = m.take a ++ (blankL k p ++ m.drop (a + k)):=by
  subst h
  unfold cpy
  rw [blankL_len,Nat.min_self,List.take_of_length_le (l:=blankL k p) (by rw [blankL_len];exact Nat.le_refl _)]
theorem cpy_end {α:Type} {X D B:List α} {n K:Nat} (hX:X.length = n) (hD:D.length = K) (hB:B.length = K):cpy (X ++ D) n B K = X ++ B:=by
  unfold cpy
  rw [List.take_left' hX,List.take_of_length_le (l:=B) (by omega),List.drop_eq_nil_of_le (as:=X ++ D) (by simp;omega),List.append_nil]
theorem Erase_eq {l:List CellT} {f t:Int} {p:PenT} (hl:mayLine l = true) (hp:mayPen p = true):line_Erase_426 l f t p = some (eraseM l f t p):=by
  have hlen:=may_len1 hl
  unfold line_Erase_426 eraseM line_fine
  simp only [line_May_eq,hl,pen_May_eq,hp,cond_true,Option.bind_some,Bool.not_true,cond_false]
  rw [Clone_eq hlen]
  simp only [Option.bind_some]
  have eF:(if f > (0:Int) then f else (0:Int)) = low0 f:=rfl
  have eT:(if (l.length:Int) < t then (l.length:Int) else t) = hiL l t:=rfl
  simp only [eF,eT]
  have h1:=low0_r f
  have h2:=hiL_r l t
  generalize low0 f = F at *
  generalize hiL l t = T at *
  by_cases h:F ≥ T
  · rw [dec_t h,if_pos h]
    simp only [cond_true,Option.bind_some]
    rw [req_pos trivial]
  · rw [dec_f h,if_neg h]
    obtain ⟨F,rfl⟩:∃ k:Nat,F = k:=⟨F.toNat,by omega⟩
    obtain ⟨T,rfl⟩:∃ k:Nat,T = k:=⟨T.toNat,by omega⟩
    simp only [cond_false,Option.bind_some,Int.toNat_natCast]
    rw [req_pos trivial,torn_eq hlen]
    simp only [Option.bind_some]
    rw [req_pos (tornM_len _ _).symm,torn_eq (by rw [tornM_len];exact hlen)]
    simp only [Option.bind_some]
    rw [req_pos (by omega),w64id (by omega),show (T:Int) - (F:Int) = ((T - F:Nat):Int) from by omega,line_Blank_eq (by omega) hp]
    simp only [Option.bind_some]
    have ec:cpy (tornM (tornM l (F:Int)) (T:Int)) F (blankL (T - F) p) (min (blankL (T - F) p).length (T - F)) = _:=cpy_blank rfl
    simp only [ec]
    rw [req_pos (by rw [tornM_len,tornM_len];omega),req_pos (by simp only [List.length_append,List.length_take,List.length_drop,blankL_len,tornM_len];omega)]
    unfold eraseN
    rw [show F + (T - F) = T from by omega]
theorem Insert_eq {l:List CellT} {a n:Int} {p:PenT} (hl:mayLine l = true) (hp:mayPen p = true):line_Insert_426 l a n p = some (insertM l a n p):=by
  have hlen:=may_len1 hl
  unfold line_Insert_426 insertM line_fine
  simp only [line_May_eq,hl,pen_May_eq,hp,cond_true,Option.bind_some,Bool.not_true,cond_false]
  rw [Clone_eq hlen]
  simp only [Option.bind_some]
  have eC:((bif decide (n < 1) then some true else bif decide (a < 0) then some true else bif decide (a ≥ (l.length:Int)) then some true else some false:Option Bool)) = some (noIns l a n):=by
    unfold noIns
    cases decide (n < 1) <;> cases decide (a < 0) <;> cases decide (a ≥ (l.length:Int)) <;> rfl
  rw [eC]
  simp only [Option.bind_some]
  cases h:noIns l a n with
  | true=>
    simp only [cond_true]
    rw [req_pos trivial]
  | false=>
    obtain ⟨h1,h2,h3,h4,h5⟩:=fewer_r h
    simp only [cond_false]
    have e1:IntKind.i64.wrap ((l.length:Int) - a) = (l.length:Int) - a:=w64id (by omega)
    have e2:(if (l.length:Int) - a < n then (l.length:Int) - a else n) = fewer l a n:=rfl
    simp only [e1,e2]
    generalize fewer l a n = K at *
    obtain ⟨A,rfl⟩:∃ k:Nat,a = k:=⟨a.toNat,by omega⟩
    obtain ⟨K,rfl⟩:∃ k:Nat,K = k:=⟨K.toNat,by omega⟩
    have e3:IntKind.i64.wrap ((l.length:Int) - (K:Int)) = ((l.length - K:Nat):Int):=by rw [w64id (by omega)];omega
    have e4:IntKind.i64.wrap ((A:Int) + (K:Int)) = ((A + K:Nat):Int):=by rw [w64id (by omega)];omega
    simp only [e3,e4,Int.toNat_natCast]
    rw [req_pos trivial,torn_eq hlen]
    simp only [Option.bind_some]
    rw [req_pos (tornM_len _ _).symm,torn_eq (by rw [tornM_len];exact hlen)]
    simp only [Option.bind_some]
    have hm:(tornM (tornM l (A:Int)) ((l.length - K:Nat):Int)).length = l.length:=by rw [tornM_len,tornM_len]
    unfold insertN
    generalize tornM (tornM l (A:Int)) ((l.length - K:Nat):Int) = m at *
    rw [req_pos (by omega),req_pos (by omega),req_pos (by omega),req_pos (by omega),req_pos (by omega),line_Blank_eq (by omega) hp]
    simp only [Option.bind_some]
    have hx:(List.take (l.length - A) (List.drop A m)).length = l.length - A:=by simp [hm]
    simp only [hx]
    have hmin:min (l.length - A) (l.length - (A + K)) = l.length - (A + K):=by omega
    simp only [hmin]
    have hmin2:min (blankL K p).length (l.length - A) = K:=by rw [blankL_len];omega
    simp only [hmin2]
    have ec:cpy m (A + K) (List.take (l.length - A) (List.drop A m)) (l.length - (A + K)) = m.take (A + K) ++ (m.drop A).take (l.length - K - A):=by
      unfold cpy
      rw [List.take_take,List.drop_eq_nil_of_le (as:=m) (i:=A + K + (l.length - (A + K))) (by omega),List.append_nil]
      congr 2;omega
    simp only [ec]
    have ec2:cpy (m.take (A + K) ++ (m.drop A).take (l.length - K - A)) A (blankL K p) K = m.take A ++ (blankL K p ++ (m.drop A).take (l.length - K - A)):=by
      unfold cpy
      rw [List.take_append_of_le_length (by simp [hm];omega),List.take_take,List.take_of_length_le (l:=blankL K p) (by rw [blankL_len];exact Nat.le_refl _)]
      rw [List.drop_append,List.drop_eq_nil_of_le (by simp;omega),List.nil_append]
      have e5:A + K - (m.take (A + K)).length = 0:=by rw [List.length_take];omega
      rw [e5,List.drop_zero]
      congr 2;omega
    simp only [ec2]
    rw [req_pos (by simp [hm];omega),req_pos (by simp [hm,blankL_len];omega)]
theorem Delete_eq {l:List CellT} {a n:Int} {p:PenT} (hl:mayLine l = true) (hp:mayPen p = true):line_Delete_426 l a n p = some (deleteM l a n p):=by
  have hlen:=may_len1 hl
  unfold line_Delete_426 deleteM line_fine
  simp only [line_May_eq,hl,pen_May_eq,hp,cond_true,Option.bind_some,Bool.not_true,cond_false]
  rw [Clone_eq hlen]
  simp only [Option.bind_some]
  have eC:((bif decide (n < 1) then some true else bif decide (a < 0) then some true else bif decide (a ≥ (l.length:Int)) then some true else some false:Option Bool)) = some (noIns l a n):=by
    unfold noIns
    cases decide (n < 1) <;> cases decide (a < 0) <;> cases decide (a ≥ (l.length:Int)) <;> rfl
  rw [eC]
  simp only [Option.bind_some]
  cases h:noIns l a n with
  | true=>
    simp only [cond_true]
    rw [req_pos trivial]
  | false=>
    obtain ⟨h1,h2,h3,h4,h5⟩:=fewer_r h
    simp only [cond_false]
    have e1:IntKind.i64.wrap ((l.length:Int) - a) = (l.length:Int) - a:=w64id (by omega)
    have e2:(if (l.length:Int) - a < n then (l.length:Int) - a else n) = fewer l a n:=rfl
    simp only [e1,e2]
    generalize fewer l a n = K at *
    obtain ⟨A,rfl⟩:∃ k:Nat,a = k:=⟨a.toNat,by omega⟩
    obtain ⟨K,rfl⟩:∃ k:Nat,K = k:=⟨K.toNat,by omega⟩
    have e3:IntKind.i64.wrap ((l.length:Int) - (K:Int)) = ((l.length - K:Nat):Int):=by rw [w64id (by omega)];omega
    have e4:IntKind.i64.wrap ((A:Int) + (K:Int)) = ((A + K:Nat):Int):=by rw [w64id (by omega)];omega
    simp only [e3,e4,Int.toNat_natCast]
    rw [req_pos trivial,torn_eq hlen]
    simp only [Option.bind_some]
    rw [req_pos (tornM_len _ _).symm,torn_eq (by rw [tornM_len];exact hlen)]
    simp only [Option.bind_some]
    have hm:(tornM (tornM l (A:Int)) ((A + K:Nat):Int)).length = l.length:=by rw [tornM_len,tornM_len]
    unfold deleteN
    generalize tornM (tornM l (A:Int)) ((A + K:Nat):Int) = m at *
    rw [req_pos (by omega),req_pos (by omega),req_pos (by omega),req_pos (by omega),req_pos (by omega),line_Blank_eq (by omega) hp]
    simp only [Option.bind_some]
    have hx:(List.take (l.length - (A + K)) (List.drop (A + K) m)).length = l.length - (A + K):=by simp [hm]
    simp only [hx]
    have hmin:min (l.length - (A + K)) (l.length - A) = l.length - (A + K):=by omega
    simp only [hmin]
    have ec:cpy m A (List.take (l.length - (A + K)) (List.drop (A + K) m)) (l.length - (A + K)) = (m.take A ++ m.drop (A + K)) ++ m.drop (l.length - K):=by
      unfold cpy
      rw [List.take_take,Nat.min_self,List.take_of_length_le (l:=List.drop (A + K) m) (by simp [hm]),← List.append_assoc]
      congr 2;omega
    simp only [ec]
    have hmin2:min (blankL K p).length (l.length - (l.length - K)) = K:=by rw [blankL_len];omega
    simp only [hmin2]
    have ec2:cpy ((m.take A ++ m.drop (A + K)) ++ m.drop (l.length - K)) (l.length - K) (blankL K p) K = (m.take A ++ m.drop (A + K)) ++ blankL K p:=cpy_end (by simp [hm];omega) (by simp [hm];omega) (blankL_len _ _)
    simp only [ec2]
    rw [req_pos (by simp [hm];omega),req_pos (by simp [hm,blankL_len];omega),List.append_assoc]
theorem Fit_eq {l:List CellT} {n:Nat} (hl:mayLine l = true) (hn:n ≤ 1000):line_Fit_e66 l (n:Int) = some (fitM l n):=by
  have hlen:=may_len1 hl
  have hp:mayPen (0,0,0) = true:=by decide
  unfold line_Fit_e66 fitM
  simp only [line_May_eq,hl,Option.bind_some,Bool.not_true,cond_false]
  rw [dec_f (by omega:¬ (n:Int) < 0),dec_f (by omega:¬ (n:Int) > 1000)]
  simp only [cond_false,Option.bind_some]
  rw [Clone_eq hlen]
  simp only [Option.bind_some]
  rw [req_pos trivial,torn_eq hlen]
  simp only [Option.bind_some]
  have e:(if (l.length:Int) < (n:Int) then (l.length:Int) else (n:Int)) = ((min n l.length:Nat):Int):=by split <;> omega
  simp only [e,Int.toNat_natCast]
  rw [req_pos (by omega),w64id (by omega),show (n:Int) - ((min n l.length:Nat):Int) = ((n - min n l.length:Nat):Int) from by omega,line_Blank_eq (by omega) hp]
  simp only [Option.bind_some,List.drop_zero]
  rw [req_pos (by rw [tornM_len];omega),req_pos (by simp only [List.length_append,List.length_take,blankL_len,tornM_len];unfold maxBy;omega),req_pos trivial]
theorem Mark_step {l:List CellT} {b:Nat} {c:Int} {x:CellT} (hb:b < l.length) (hlen:l.length ≤ 1000) (hx:l[b]? = some x):loopO (line_Mark_5ae_loop1 x (b:Int) l c) 0 = some (markN l b c):=by
  have hreq:0 ≤ (b:Int) ∧ (b:Int) < ((l.length:Nat):Int):=by omega
  have s0:line_Mark_5ae_loop1 x (b:Int) l c 0 = some (if x.2.1.1 = 0 then .inl (l.set b (x.1,(c,x.2.1.2),x.2.2)) else .inr 1):=by
    unfold line_Mark_5ae_loop1
    by_cases h:x.2.1.1 = 0
    · simp [h,hx];exact req_pos hb
    · have:(x.2.1.1 == 0) = false:=by simpa using h
      simp [h,this];rfl
  have s1:line_Mark_5ae_loop1 x (b:Int) l c 1 = some (if x.2.1.2 = 0 then .inl (l.set b (x.1,(x.2.1.1,c),x.2.2)) else .inr 2):=by
    unfold line_Mark_5ae_loop1
    by_cases h:x.2.1.2 = 0
    · simp [h,hx];exact req_pos hb
    · have:(x.2.1.2 == 0) = false:=by simpa using h
      simp [h,this];rfl
  have s2:line_Mark_5ae_loop1 x (b:Int) l c 2 = some (.inl l):=by
    unfold line_Mark_5ae_loop1
    simp
  have hset:l.set b x = l:=by
    obtain ⟨_,e⟩:=List.getElem?_eq_some_iff.1 hx
    rw [← e,List.set_getElem_self]
  unfold markN
  rw [hx]
  simp only [markC]
  rw [loopO_eq,s0]
  by_cases h0:x.2.1.1 = 0
  · simp only [if_pos h0]
  · simp only [if_neg h0]
    rw [loopO_eq,s1]
    by_cases h1:x.2.1.2 = 0
    · simp only [if_pos h1]
    · simp only [if_neg h1]
      rw [loopO_eq,s2,hset]
theorem Mark_eq {l:List CellT} {a c:Int} (hl:mayLine l = true):line_Mark_5ae l a c = some (markM l a c):=by
  obtain ⟨hlen,hs⟩:=mayLine_iff.1 hl
  unfold line_Mark_5ae markM
  simp only [line_May_eq,hl,Option.bind_some,Bool.not_true,cond_false]
  rw [Clone_eq hlen]
  simp only [Option.bind_some,cols_Of_eq]
  have eC:((bif decide (a < 0) then some true else bif decide (a ≥ (l.length:Int)) then some true else bif colsOf c != 0 then some true else some false:Option Bool)) = some (noMark l a c):=by
    unfold noMark
    cases decide (a < 0) <;> cases decide (a ≥ (l.length:Int)) <;> cases (colsOf c != 0) <;> rfl
  rw [eC]
  simp only [Option.bind_some]
  cases h:noMark l a c with
  | true=>
    simp only [cond_true]
    rw [req_pos trivial]
  | false=>
    simp only [noMark,Bool.or_eq_false_iff,decide_eq_false_iff_not,bne_eq_false_iff_eq] at h
    obtain ⟨A,rfl⟩:∃ k:Nat,a = k:=⟨a.toNat,by omega⟩
    have hA:A < l.length:=by omega
    simp only [cond_false,getI_nat,List.getElem?_eq_getElem hA,Option.bind_some,Int.toNat_natCast]
    obtain ⟨x,k1,k2⟩:=markAt_cell hs hA
    have hlt:markAt l A < l.length:=(List.getElem?_eq_some_iff.1 k1).1
    have eA:((bif l[A].2.2.1 == 2 then some true else some false:Option Bool).bind fun x13=>bif x13 then some (IntKind.i64.wrap ((A:Int) - 1)) else some (A:Int)) = some ((markAt l A:Nat):Int):=by
      unfold markAt
      rw [List.getElem?_eq_getElem hA]
      by_cases h2:l[A].2.2.1 = 2
      · have h0:=(half_ahead hs (List.getElem?_eq_getElem hA) h2).1
        simp only [h2,beq_self_eq_true,cond_true,Option.bind_some,if_true]
        rw [w64id (by omega)]
        congr 1;omega
      · have:(l[A].2.2.1 == 2) = false:=by simpa using h2
        simp only [this,cond_false,Option.bind_some,if_neg h2]
    rw [eA]
    simp only [Option.bind_some,Int.toNat_natCast]
    rw [req_pos (by omega),k1]
    simp only [Option.bind_some]
    rw [Mark_step hlt hlen k1]
    simp only [Option.bind_some]
    rw [req_pos (by unfold markN;rw [k1];simp)]
end Go.SH
