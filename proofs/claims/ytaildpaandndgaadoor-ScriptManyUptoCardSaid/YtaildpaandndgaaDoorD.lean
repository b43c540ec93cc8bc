/- ScriptMany, the second form -/
import Derived.Test.YtaildpaandndgaaDoorC
import Derived.KernelRfl
import Derived.Test.YtaildpaandndgaaDoorProg
import Derived.WalkKit
import Derived.Lib.Builder
import Derived.Lib.AppendStr
import Derived.Lib.Walk
import Derived.Lib.Strings
import Derived.Lib.Slices
import Derived.Laws.Externs
import Derived.Shelf.Strings.BuilderX
import Derived.Shelf.Strings.Builder1
import Derived.Shelf.LaysM
import Derived.ProofKit
import Derived.LaidMore
import Derived.OpenShut
import Derived.Below
import Derived.Test.YtaildpaandndgaaDoorRows
import Derived.LaidHandle
import Derived.ChangeMaps5
import Derived.Stop.Joined
import Derived.Stop.LaidErr
import Derived.Lib.LaidTab
import Derived.Lib.LaidU8
import Derived.Lib.SmallJoins
import Derived.Test.YtaildpaandndgaaDoorTie
import Derived.Test.YtaildpaandndgaaDoorCards
import Derived.SevenTiedAt
import Derived.Deep.DeepHandedRow
import Derived.Deep.DeepWitnessRowRef
set_option linter.unusedVariables false
set_option linter.unusedSimpArgs false
set_option linter.unusedSectionVars false
set_option maxRecDepth 100000
set_option maxHeartbeats 4000000
namespace Go.Proofs.Sp
open Go.RowKit Go.Extern.Stop Go.Stop Go.Extern
theorem as_nil (t:Value) (w:World) :
    Calls Tryd.prog 30 #[.nilIface,t] w fun e w'=>e = .returned (.bool false) ∧ w' = w:=by
  go_enter Tryd.func30,Tryd.ntmps30
  go_wp2
  go_ret
  exact ⟨rfl,rfl⟩
theorem valueOf70 (t:Addr) (w:World):(callFunc 54 #[.iface 70 (.pointer (some t))]).run Tryd.prog w
    = .ok (.value (.agg #[.pointer (some ⟨12,70,none⟩),.pointer (some ⟨w.heap.size,0,none⟩),.int .u64 150])) (w.alloc (.cells #[.pointer (some t)] 70)):=by kernel_rfl
theorem type70 (a:Addr) (w:World):(callFunc 55 #[.agg #[.pointer (some ⟨12,70,none⟩),.pointer (some a),.int .u64 150]]).run Tryd.prog w
    = .ok (.value (.iface 121 (.agg #[.pointer (some ⟨12,70,none⟩)]))) w:=by kernel_rfl
theorem methodKind (h:Value) (w:World):(Go.method 303 121 (.agg #[h]) "Kind").run Tryd.prog w = .ok (116,h) w:=by kernel_rfl
theorem kind70 (w:World):(callFunc 116 #[.pointer (some ⟨12,70,none⟩)]).run Tryd.prog w = .ok (.value (.int .u8 22)) w:=by kernel_rfl
theorem kind35 (w:World):(callFunc 116 #[.pointer (some ⟨12,35,none⟩)]).run Tryd.prog w = .ok (.value (.int .u8 22)) w:=by kernel_rfl
theorem methodElem (h:Value) (w:World):(Go.method 303 121 (.agg #[h]) "Elem").run Tryd.prog w = .ok (127,.agg #[h]) w:=by kernel_rfl
theorem methodImplements (h:Value) (w:World):(Go.method 303 121 (.agg #[h]) "Implements").run Tryd.prog w = .ok (128,.agg #[h]) w:=by kernel_rfl
theorem methodAssignableTo (h:Value) (w:World):(Go.method 303 121 (.agg #[h]) "AssignableTo").run Tryd.prog w = .ok (125,.agg #[h]) w:=by kernel_rfl
theorem elem70 (w:World):(callFunc 127 #[.agg #[.pointer (some ⟨12,70,none⟩)]]).run Tryd.prog w = .ok (.value (.iface 121 (.agg #[.pointer (some ⟨12,35,none⟩)]))) w:=by kernel_rfl
theorem implements35 (w:World):(callFunc 128 #[.agg #[.pointer (some ⟨12,35,none⟩)],.iface 121 (.agg #[.pointer (some ⟨12,25,none⟩)])]).run Tryd.prog w = .ok (.value (.bool true)) w:=by kernel_rfl
theorem typeOf35 (v:Value) (w:World):(callFunc 33 #[.iface 35 v]).run Tryd.prog w = .ok (.value (.iface 121 (.agg #[.pointer (some ⟨12,35,none⟩)]))) w:=by kernel_rfl
theorem assignable35 (w:World):(callFunc 125 #[.agg #[.pointer (some ⟨12,35,none⟩)],.iface 121 (.agg #[.pointer (some ⟨12,35,none⟩)])]).run Tryd.prog w = .ok (.value (.bool true)) w:=by kernel_rfl
theorem assignable71 (w:World):(callFunc 125 #[.agg #[.pointer (some ⟨12,71,none⟩)],.iface 121 (.agg #[.pointer (some ⟨12,35,none⟩)])]).run Tryd.prog w = .ok (.value (.bool false)) w:=by kernel_rfl
theorem valueOf35 (e:Addr) (w:World):(callFunc 54 #[.iface 35 (.pointer (some e))]).run Tryd.prog w
    = .ok (.value (.agg #[.pointer (some ⟨12,35,none⟩),.pointer (some ⟨w.heap.size,0,none⟩),.int .u64 150])) (w.alloc (.cells #[.pointer (some e)] 35)):=by kernel_rfl
theorem noAsE (v:Value) (xT:TypeId) (w:World):(Instr.typeAssert (.iface 71 v) xT 144 true).run Tryd.prog w = .ok (.tuple #[.nilIface,.bool false]) w:=run_typeAssert_lacksB Tryd.underlying144 (by kernel_rfl) (by kernel_rfl) v xT w
theorem rlm (z:Sem Value) (f:TypeId → Addr → Nat → Nat → Sem Value) (v:Value) :
    ReflectliteValue.method z f #[v] = (do match ← ReflectliteValue.parts v with | none=>z | some (t,a,fl)=>f t a fl (fl % 32)):=rfl
theorem parts70 (a:Addr) (w:World):(ReflectliteValue.parts (.agg #[.pointer (some ⟨12,70,none⟩),.pointer (some a),.int .u64 150])).run Tryd.prog w = .ok (some (70,a,150)) w:=by kernel_rfl
theorem isNil70 (a p:Addr) (W:World) (ha:W.cell? a = some (.pointer (some p))) :
    (callFunc 56 #[.agg #[.pointer (some ⟨12,70,none⟩),.pointer (some a),.int .u64 150]]).run Tryd.prog W = .ok (.value (.bool false)) W:=by
  have h8:=@run_callFunc_extern Tryd.prog 56 _ (ReflectliteValue.method (ReflectliteValue.valueError "reflectlite.Value.IsNil" 0) ReflectliteValue.isNil) Tryd.func56 (by kernel_rfl) (by kernel_rfl) (by kernel_rfl) (by kernel_rfl)
  rw [h8,rlm]
  simp only [Sem.run_bind,parts70,Result.andThen]
  simp [ReflectliteValue.isNil,loadVar,isAgg,underlying,Tryd.underlying70,ha,Result.andThen]
theorem elemOf70 (w:World):(Rtype.elem? 70).run Tryd.prog w = .ok (some 35) w:=by kernel_rfl
theorem mk35 (p:Addr) (w:World):(ReflectliteValue.mk 35 p ReflectliteValue.flagAddr).run Tryd.prog w = .ok (.agg #[.pointer (some ⟨12,35,none⟩),.pointer (some p),.int .u64 406]) w:=by kernel_rfl
theorem elemV70 (a p:Addr) (W:World) (ha:W.cell? a = some (.pointer (some p))) :
    (callFunc 70 #[.agg #[.pointer (some ⟨12,70,none⟩),.pointer (some a),.int .u64 150]]).run Tryd.prog W
      = .ok (.value (.agg #[.pointer (some ⟨12,35,none⟩),.pointer (some p),.int .u64 406])) W:=by
  have h8:=@run_callFunc_extern Tryd.prog 70 _ (ReflectliteValue.method (ReflectliteValue.valueError "reflectlite.Value.Elem" 0) ReflectliteValue.elem) Tryd.func70 (by kernel_rfl) (by kernel_rfl) (by kernel_rfl) (by kernel_rfl)
  rw [h8,rlm]
  simp only [Sem.run_bind,parts70,Result.andThen]
  simp [ReflectliteValue.elem,loadVar,isAgg,underlying,Tryd.underlying70,ha,Result.andThen,elemOf70,mk35]
theorem rls (v x:Value):ReflectliteValue.set #[v,x] = (do
    let (some (dst,a,fl),some (src,b,_)):=(← ReflectliteValue.parts v,← ReflectliteValue.parts x)
      | unsupported (.noEntry "extern/(internal/reflectlite.Value).Set.zeroValue")
    if fl / ReflectliteValue.flagAddr % 2 == 0 then unsupported (.noEntry "extern/(internal/reflectlite.Value).Set.unaddressable")
    let val ← loadVar src b
    if ← Rtype.directlyAssignable dst src then storeVar dst a val
    else if ← Rtype.implements dst src then
      if (← Rtype.kind src) == 20 then
        match val with
        | .nilIface=>unsupported (.noEntry "extern/reflectlite: a nil value of one interface type handed on as a value of another")
        | _=>storeVar dst a val
      else storeVar dst a (.iface src val)
    else panicString ("reflectlite.Set: value of type " ++ (← Rtype.spelt src) ++ " is not assignable to type " ++ (← Rtype.spelt dst))
    pure (.tuple #[])):=rfl
theorem parts35a (a:Addr) (w:World):(ReflectliteValue.parts (.agg #[.pointer (some ⟨12,35,none⟩),.pointer (some a),.int .u64 406])).run Tryd.prog w = .ok (some (35,a,406)) w:=by kernel_rfl
theorem parts35 (a:Addr) (w:World):(ReflectliteValue.parts (.agg #[.pointer (some ⟨12,35,none⟩),.pointer (some a),.int .u64 150])).run Tryd.prog w = .ok (some (35,a,150)) w:=by kernel_rfl
theorem direct35 (w:World):(Rtype.directlyAssignable 35 35).run Tryd.prog w = .ok true w:=by kernel_rfl
theorem set35 (ta b e:Addr) (old:Value) (W:World) (hb:W.cell? b = some (.pointer (some e))) (ht:W.cell? ta = some old) (hf:W.frozen? ta = false) :
    (callFunc 71 #[.agg #[.pointer (some ⟨12,35,none⟩),.pointer (some ta),.int .u64 406],.agg #[.pointer (some ⟨12,35,none⟩),.pointer (some b),.int .u64 150]]).run Tryd.prog W
      = .ok (.value (.tuple #[])) (W.setCell ta (.pointer (some e))):=by
  have h8:=@run_callFunc_extern Tryd.prog 71 _ ReflectliteValue.set Tryd.func71 (by kernel_rfl) (by kernel_rfl) (by kernel_rfl) (by kernel_rfl)
  rw [h8,rls]
  simp only [Sem.run_bind,parts35a,parts35,Result.andThen]
  simp [ReflectliteValue.flagAddr,loadVar,isAgg,underlying,Tryd.underlying35,hb,Result.andThen,direct35,storeVar,Value.cells,storeCells,Addr.add]
  rw [run_store Tryd.prog W ta _ _ (by rfl)]
  simp [ht,hf]
/-- The worlds on the way. -/
abbrev W1 (t:Addr) (w:World):World:=w.alloc (.cells #[.pointer (some t)] 70)
abbrev W2 (t:Addr) (w:World):World:=(W1 t w).alloc (.cells #[.pointer (some ⟨12,70,none⟩),.pointer (some ⟨w.heap.size,0,none⟩),.int .u64 150] 112)
abbrev W3 (t:Addr) (w:World):World:=(W2 t w).alloc (.cells #[.pointer (some ⟨12,70,none⟩),.pointer (some ⟨w.heap.size,0,none⟩),.int .u64 150] 112)
theorem as_hit (e t:Addr) (old:Value) (w:World) (hg:w.cell? ⟨5,0,none⟩ = some (.iface 121 (.agg #[.pointer (some ⟨12,25,none⟩)]))) (ht0:w.cell? t = some old) (hf0:w.frozen? t = false) :
    Calls Tryd.prog 30 #[.iface 35 (.pointer (some e)),.iface 70 (.pointer (some t))] w fun ev w'=>ev = .returned (.bool true) ∧ w' = ((W3 t w).alloc (.cells #[.pointer (some e)] 35)).setCell t (.pointer (some e)):=by
  have tO:=typeOf35
  have mA:=methodAssignableTo
  have a25:=assignable35
  have v25:=valueOf35
  have f6:=valueOf70
  have f7:=type70
  have mK:=methodKind
  have mE:=methodElem
  have mI:=methodImplements
  have k27:=kind70
  have k25:=kind35
  have e27:=elem70
  have i25:=implements35
  have n8:=isNil70 ⟨w.heap.size,0,none⟩ t (W2 t w) (by simp)
  have hlt:5 < w.heap.size:=by
    rcases Nat.lt_or_ge 5 w.heap.size with h | h
    · exact h
    · simp [World.cell?,Array.getElem?_eq_none h] at hg
  have hg2:(W2 t w).cell? ⟨5,0,none⟩ = some (.iface 121 (.agg #[.pointer (some ⟨12,25,none⟩)])):=by
    rw [World.cell?_alloc_lt _ _ ⟨5,0,none⟩ (by simp;omega),World.cell?_alloc_lt _ _ ⟨5,0,none⟩ hlt];exact hg
  have htl:t.block < w.heap.size:=by
    rcases Nat.lt_or_ge t.block w.heap.size with h | h
    · exact h
    · simp [World.cell?,Array.getElem?_eq_none h] at ht0
  have el:=elemV70 ⟨w.heap.size,0,none⟩ t (W3 t w) (by rw [World.cell?_alloc_lt _ _ ⟨w.heap.size,0,none⟩ (by simp;omega)];simp)
  have st:=set35 t ⟨w.heap.size + 1 + 1 + 1,0,none⟩ e old ((W3 t w).alloc (.cells #[.pointer (some e)] 35))
    (by rw [World.cell?_alloc_at _ _ _ _ (by simp)];rfl)
    (by rw [World.cell?_alloc_lt _ _ t (by simp;omega),World.cell?_alloc_lt _ _ t (by simp;omega),World.cell?_alloc_lt _ _ t (by simp;omega),World.cell?_alloc_lt _ _ t htl];exact ht0)
    (by rw [World.frozen?_alloc_old _ _ t (by simp;omega),World.frozen?_alloc_old _ _ t (by simp;omega),World.frozen?_alloc_old _ _ t (by simp;omega),World.frozen?_alloc_old _ _ t (Nat.ne_of_lt htl)];exact hf0)
  go_enter Tryd.func30,Tryd.ntmps30
  go_wp2
  refine wp_loop_rounds 1 ?_
  rw [rounds_succ]
  go_wp2
  go_ret
  exact ⟨rfl,rfl⟩
theorem as_miss (e t:Addr) (w:World) (hg:w.cell? ⟨5,0,none⟩ = some (.iface 121 (.agg #[.pointer (some ⟨12,25,none⟩)]))) :
    Calls Tryd.prog 30 #[.iface 71 (.pointer (some e)),.iface 70 (.pointer (some t))] w fun ev w'=>ev = .returned (.bool false) ∧ w' = W3 t w:=by
  have tO:=isTypeOf
  have mA:=methodAssignableTo
  have a25:=assignable71
  have f6:=valueOf70
  have f7:=type70
  have mK:=methodKind
  have mE:=methodElem
  have mI:=methodImplements
  have k27:=kind70
  have k25:=kind35
  have e27:=elem70
  have i25:=implements35
  have nA:=noAsE
  have uE:=noUnwrapE
  have vE:=noUnwrapsE
  have n8:=isNil70 ⟨w.heap.size,0,none⟩ t (W2 t w) (by simp)
  have hlt:5 < w.heap.size:=by
    rcases Nat.lt_or_ge 5 w.heap.size with h | h
    · exact h
    · simp [World.cell?,Array.getElem?_eq_none h] at hg
  have hg2:(W2 t w).cell? ⟨5,0,none⟩ = some (.iface 121 (.agg #[.pointer (some ⟨12,25,none⟩)])):=by
    rw [World.cell?_alloc_lt _ _ ⟨5,0,none⟩ (by simp;omega),World.cell?_alloc_lt _ _ ⟨5,0,none⟩ hlt];exact hg
  go_enter Tryd.func30,Tryd.ntmps30
  go_wp2
  refine wp_loop_rounds 1 ?_
  rw [rounds_succ]
  go_wp2
  go_ret
  exact ⟨rfl,rfl⟩
end Go.Proofs.Sp
set_option maxRecDepth 100000
namespace Go.SH
open Go.Proofs
/-- Where the program's five errors lie. -/
class Sent34 where
  f:Nat → Addr
  inj:∀ i j,f i = f j → i = j
def errT:List Value:=[.iface 121 (.agg #[.pointer (some ⟨12,25,none⟩)])]
def p10T:List Value:=Lib.pow10Tab.map fun z=>Value.int .u64 z
instance instSent [Sent34]:SentA:=⟨Sent34.f,Sent34.inj,[(5,[.xc 5 errT]),(7,[.xc 7 p10T])],fun _=>⟨0,[],.skip,.skip,[]⟩⟩
def GT:GTab:=[(0,⟨.te 71,[some 0]⟩),(1,⟨.te 71,[some 1]⟩),(2,⟨.te 71,[some 2]⟩),(3,⟨.te 71,[some 3]⟩),(4,⟨.te 71,[some 4]⟩)]
variable [Sent34]
noncomputable def En:Env:=⟨Tryd.prog,gtPV GT,none,none⟩
theorem En_G (g:Nat) (cells:List PV) (h:lget En.G g = some cells):(∃ k,cells = [.ev 71 (some (SentA.f k))]) ∨ (g = 5 ∧ cells = [.xc 5 errT]) ∨ (g = 7 ∧ cells = [.xc 7 p10T]):=by
  simp only [En,gtPV,GT,SentA.extra,List.map_cons,List.map_nil,List.cons_append,List.nil_append,lget] at h
  split at h;· simp at h;subst h;exact .inl ⟨0,rfl⟩
  split at h;· simp at h;subst h;exact .inl ⟨1,rfl⟩
  split at h;· simp at h;subst h;exact .inl ⟨2,rfl⟩
  split at h;· simp at h;subst h;exact .inl ⟨3,rfl⟩
  split at h;· simp at h;subst h;exact .inl ⟨4,rfl⟩
  split at h;· rename_i e;simp at h;subst h;exact .inr (.inl ⟨e.symm,rfl⟩)
  split at h;· rename_i e;simp at h;subst h;exact .inr (.inr ⟨e.symm,rfl⟩)
  simp at h
theorem En_ok:GOK En:=by
  intro g cells h
  rcases En_G g cells h with ⟨k,rfl⟩ | ⟨_,rfl⟩ | ⟨_,rfl⟩ <;> rfl
theorem En_mixed:En.P.follows .mixedOrders = true:=by kernel_rfl
noncomputable def noC:CT En:=⟨fun _=>none,fun _=>none,fun _=>none⟩
noncomputable def cl (l:List (PCon En)) (m:List (ICon En)):CT En:=⟨fun i=>l[i]?,fun i=>m[i]?,fun _=>none⟩
theorem cells2 {α:Type} {l:List α} (h:l.length = 2):∃ x y,l = [x,y]:=by
  match l,h with
  | [x,y],_=>exact ⟨x,y,rfl⟩
theorem itoa_pure {n:Int} {v:List UInt8} (h:itoa n = some v):Pure En 32 [.int .i64 n] (.str v):=by
  obtain ⟨⟨h0,h1⟩,h⟩:=req_some h
  simp at h;subst h
  refine Pure.of_calls fun A w σ cargs hl hv hg=>?_
  obtain ⟨x,rfl⟩:∃ x,cargs = [x]:=by match cargs,hl with | [x],_=>exact ⟨x,rfl⟩
  obtain rfl:=(hv 0 _ x rfl rfl).int_inv
  obtain ⟨T,fr,ht⟩:=xc_cell (hg 7 _ (by rfl))
  refine (Tryd.strconv_Itoa n h0 h1 w ?_).mono ?_
  · show w.var? Tryd.prog "internal/strconv.uint64pow10" = _
    unfold World.var?
    rw [show Tryd.prog.globalNamed "internal/strconv.uint64pow10" = some 7 from by kernel_rfl]
    simp [ht,p10T]
  · rintro e w' ⟨rfl,k,os,rfl⟩
    refine ⟨_,rfl,.str _,?_,fun β hb=>?_,rfl,rfl,rfl⟩
    · simp [Sort.grow,World.drewN]
    · simp only [Sort.grow,World.drewN];rw [Array.getElem?_append_left hb]
noncomputable def itoa_c:PCon En:=⟨32,[.h (.ti .i64)],.h .ts,fun a=>itoa a,Tryd.call32,fun a v h=>itoa_pure h⟩
theorem u8_back (c:UInt8):((c.toNat:Int)).toNat.toUInt8 = c:=by simp
theorem idxB_pure {f:FuncId} (hf:∀ (s:ByteArray) (c:Int) (w:World),Calls Tryd.prog f #[.string s,.int .u8 c] w fun e w'=>e = .returned (.int .i64 (Lib.indexByte s.data.toList c.toNat.toUInt8)) ∧ w' = w)
    {s:List UInt8} {c:UInt8} {v:Int} (h:idxB s c = some v):Pure En f [.str s,.int .u8 c.toNat] (.int .i64 v):=by
  simp [idxB] at h;subst h
  refine Pure.of_calls fun A w σ cargs hl hv hg=>?_
  obtain ⟨x,y,rfl⟩:=cells2 hl
  obtain rfl:=(hv 0 _ x rfl rfl).str_inv
  obtain rfl:=(hv 1 _ y rfl rfl).int_inv
  refine (hf ⟨⟨s⟩⟩ c.toNat w).mono ?_
  rintro e w' ⟨rfl,rfl⟩
  refine ⟨_,rfl,?_,Nat.le_refl _,fun _ _=>rfl,rfl,rfl,rfl⟩
  rw [u8_back];exact .int _ _
noncomputable def idxB_c:PCon En:=⟨82,[.h .ts,.h .tu],.h (.ti .i64),fun a=>idxB a.1 a.2,Tryd.call82,fun a v h=>idxB_pure Tryd.strings_IndexByte h⟩
noncomputable def idxL_c:PCon En:=⟨75,[.h .ts,.h .tu],.h (.ti .i64),fun a=>idxB a.1 a.2,Tryd.call75,fun a v h=>idxB_pure Tryd.stringslite_IndexByte h⟩
theorem back_same {w:World} {A:Nat → Prop} {b:Bool} {e:Ending} {w':World} (h:e = .returned (.bool b) ∧ w' = w) :
    ∃ c,e = .returned c ∧ VR w' sig0 (avo A sig0 []) (.bool b) c ∧ w.heap.size ≤ w'.heap.size ∧ (∀ β,β < w.heap.size → w'.heap[β]? = w.heap[β]?) ∧ (w'.os = w.os ∧ w'.output = w.output ∧ w'.tape = w.tape):=by
  obtain ⟨rfl,rfl⟩:=h
  exact ⟨_,rfl,.bool _,Nat.le_refl _,fun _ _=>rfl,rfl,rfl,rfl⟩
theorem isE_pure {e t:Option Nat} {v:Bool} (h:isE e t = some v):Pure En 21 [.ev 71 (e.map SentA.f),.ev 71 (t.map SentA.f)] (.bool v):=by
  cases t with
  | none=>simp [isE] at h
  | some b=>
    simp [isE] at h;subst h
    refine Pure.of_calls fun A w σ cargs hl hv hg=>?_
    obtain ⟨x,y,rfl⟩:=cells2 hl
    obtain ⟨rfl,hx⟩:=(hv 0 _ x rfl rfl).ev_inv
    obtain ⟨rfl,hy⟩:=(hv 1 _ y rfl rfl).ev_inv
    cases e with
    | none=>exact (Go.Proofs.Sp.is_nil _ w).mono fun e w' h=>back_same h
    | some a=>
      by_cases hab:a = b
      · subst hab
        exact (Go.Proofs.Sp.is_same _ w).mono fun e w' h=>by simpa using back_same (A:=A) h
      · obtain ⟨ca,ta,ha⟩:=(hx _ rfl).heap
        obtain ⟨cb,tb,hb⟩:=(hy _ rfl).heap
        refine (Go.Proofs.Sp.is_other _ _ ca cb ta tb w (fun e=>hab (SentA.inj _ _ e)) ha hb).mono fun e w' h=>?_
        have:=back_same (A:=A) h
        rw [show (some a == some b) = false from by simp [hab]];exact this
noncomputable def isE_c:PCon En:=⟨21,[.h (.te 71),.h (.te 71)],.h .tb,fun a=>isE a.1 a.2,Tryd.call21,fun a v h=>isE_pure h⟩
/-- A fault that nobody writes: its two cells. -/
theorem fault_inv {w:World} {σ:Sig} {av:Nat → Prop} {y:Int × Option Nat} {v:Value} (h:VR w σ av (.iface 35 (.rop ((el FaT).pv y) 0)) v) :
    ∃ β add,v = .iface 35 (.pointer (some ⟨β,add,none⟩)) ∧ w.cell? ⟨β,add + 1,none⟩ = some (evV 71 (y.2.map SentA.f)) ∧ (∀ a,y.2.map SentA.f = some a → EvA w av a) ∧ VR w σ av (.rop ((el FaT).pv y) 0) (.pointer (some ⟨β,add,none⟩)):=by
  cases h with
  | iface _ u hu=>
    have hu':=hu
    cases hu with
    | @rop _ _ β add cs him hl hcv=>
      have hl2:cs.length = 2:=by rw [← hl];rfl
      obtain ⟨c0,c1,rfl⟩:=cells2 hl2
      obtain ⟨e,k⟩:=(hcv 1 _ c1 rfl rfl).ev_inv
      exact ⟨β,add,rfl,by rw [him.cell 1 c1 rfl,e],k,hu'⟩
theorem isF_pure {x:Option (Int × Option Nat)} {t:Option Nat} {v:Bool} (h:isF x t = some v):Pure En 21 [optI 35 (el FaT) x,.ev 71 (t.map SentA.f)] (.bool v):=by
  cases t with
  | none=>simp [isF] at h
  | some b=>
    refine Pure.of_calls fun A w σ cargs hl hv hg=>?_
    obtain ⟨u,u',rfl⟩:=cells2 hl
    obtain ⟨rfl,hy⟩:=(hv 1 _ u' rfl rfl).ev_inv
    have hu:=hv 0 _ u rfl rfl
    cases x with
    | none=>
      simp [isF] at h;subst h
      cases hu
      exact (Go.Proofs.Sp.is_nil _ w).mono fun e w' h=>back_same h
    | some y=>
      simp [isF] at h;subst h
      obtain ⟨β,add,rfl,hc,hk,_⟩:=fault_inv hu
      obtain ⟨n,e⟩:=y
      cases e with
      | none=>exact (Go.Proofs.Sp.is_wrap_nil β add _ w hc).mono fun e w' h=>back_same h
      | some a=>
        by_cases hab:a = b
        · subst hab
          exact (Go.Proofs.Sp.is_wrap_same β add _ w hc).mono fun e w' h=>by simpa using back_same (A:=A) h
        · obtain ⟨ca,ta,ha⟩:=(hk _ rfl).heap
          obtain ⟨cb,tb,hb⟩:=(hy _ rfl).heap
          refine (Go.Proofs.Sp.is_wrap_other β add _ _ ca cb ta tb w hc (fun e=>hab (SentA.inj _ _ e)) ha hb).mono fun e w' h=>?_
          have:=back_same (A:=A) h
          rw [show ((n,some a).snd == some b) = false from by simp [hab]];exact this
noncomputable def isF_c:PCon En:=⟨21,[.h (.to 35 FaT),.h (.te 71)],.h .tb,fun a=>isF a.1 a.2,Tryd.call21,fun a v h=>isF_pure h⟩
def as_ar1:List Sh:=[.h (.to 35 FaT),.iface 70 (.ptr 0 0)]
def as_ar0:List Sh:=[.h (.te 71),.iface 70 (.ptr 0 0)]
def as_ls:List (Nat × LSh):=[(0,.cs [.k .nilp])]
def as_ot1:Tm:=⟨[(0,.h .tb)],[],[],[(0,0,.h (.tq FaT))],[]⟩
def as_ot0:Tm:=⟨[(0,.k (.bool false))],[],[],[],[]⟩
theorem frozen_own {w:World} {β add size:Nat} {c:Array Value} {T:TypeId} {fr:Nat × Nat} (hh:w.heap[β]? = some (.cells c T fr)) (hf:fr.1 = fr.2 ∨ size ≤ fr.1) (hl:add < size):w.frozen? ⟨β,add,none⟩ = false:=by
  obtain ⟨lo,hi⟩:=fr
  simp only [World.frozen?,hh]
  simp only at hf
  rcases hf with h | h <;> simp <;> omega
theorem heap_setCell {w:World} {β add:Nat} {c:Array Value} {T:TypeId} {fr:Nat × Nat} (hh:w.heap[β]? = some (.cells c T fr)) (v:Value) :
    (w.setCell ⟨β,add,none⟩ v).heap.size = w.heap.size ∧ (∀ k,k ≠ β → (w.setCell ⟨β,add,none⟩ v).heap[k]? = w.heap[k]?) ∧ (w.setCell ⟨β,add,none⟩ v).heap[β]? = some (.cells (c.setIfInBounds add v) T fr) ∧
    ((w.setCell ⟨β,add,none⟩ v).os = w.os ∧ (w.setCell ⟨β,add,none⟩ v).output = w.output ∧ (w.setCell ⟨β,add,none⟩ v).tape = w.tape):=by
  have hlt:=(Array.getElem?_eq_some_iff.1 hh).1
  refine ⟨?_,fun k hk=>?_,?_,?_⟩ <;> simp [World.setCell]
  · rw [Array.getElem?_modify,if_neg (Ne.symm hk)]
  · rw [Array.getElem?_modify,if_pos rfl,hh];rfl
theorem asF_calls {x:Option (Int × Option Nat)} {b:Bool} {y:Option (Int × Option Nat)} (h:asFa x = some (b,y)) :
    ACalls En 30 [optI 35 (el FaT) x,.iface 70 (.ptr 0 0)] [(0,some [.nilp])] fun r L=>r = .bool b ∧ L = [(0,some [optQ (el FaT) y])]:=by
  simp [asFa] at h;obtain ⟨rfl,rfl⟩:=h
  intro A w σ cargs hl hv hbr hg
  obtain ⟨u,u',rfl⟩:=cells2 hl
  have hu:=hv 0 _ u rfl rfl
  have hu':=hv 1 _ u' rfl rfl
  cases x with
  | none=>
    cases hu
    refine (Go.Proofs.Sp.as_nil u' w).mono ?_
    rintro e w' ⟨rfl,rfl⟩
    exact ⟨_,_,[(0,some [.nilp])],σ,rfl,⟨rfl,rfl⟩,.bool _,hbr,Grow.refl _ _ _ _⟩
  | some z=>
    obtain ⟨β0,add0,rfl,_,_,hro⟩:=fault_inv hu
    cases hu' with
    | iface _ p hp=>
      cases hp with
      | @ptr _ _ β add size hs=>
        rcases hbr.all 0 [.nilp] (by rfl) with ⟨h3,_⟩ | ⟨β',add',size',c,T,fr,hB⟩
        · rw [hs] at h3;simp at h3
        · have:=hB.sig;rw [hs] at this;simp at this
          obtain ⟨rfl,rfl,rfl⟩:=this
          have hsz:=hB.fits
          simp at hsz
          obtain ⟨v0,hc0,hv0⟩:=hB.vals 0 .nilp rfl
          obtain ⟨T5,fr5,h5⟩:=xc_cell (hg 5 _ (by rfl))
          have hlt:β < w.heap.size:=(Array.getElem?_eq_some_iff.1 hB.heap).1
          refine (Go.Proofs.Sp.as_hit ⟨β0,add0,none⟩ ⟨β,add + 0,none⟩ v0 w ?_ ?_ ?_).mono ?_
          · simp [World.cell?,h5,errT]
          · rw [show w.cell? ⟨β,add + 0,none⟩ = c[add + 0]? from cell_of_heap hB.heap];exact hc0
          · exact frozen_own hB.heap hB.frs (by omega)
          rintro e w' ⟨rfl,rfl⟩
          obtain ⟨hbr2,hg2⟩:=hbr.more (w':=(Go.Proofs.Sp.W3 ⟨β,add + 0,none⟩ w).alloc (.cells #[.pointer (some ⟨β0,add0,none⟩)] 35)) (by simp;omega)
            (fun γ hγ=>by
              rw [heap_old _ _ _ (by simp;omega),heap_old _ _ _ (by simp;omega),heap_old _ _ _ (by simp;omega),heap_old _ _ _ hγ]) ⟨rfl,rfl,rfl⟩
          have hh2:((Go.Proofs.Sp.W3 ⟨β,add + 0,none⟩ w).alloc (.cells #[.pointer (some ⟨β0,add0,none⟩)] 35)).heap[β]? = some (.cells c T fr):=by
            rw [heap_old _ _ _ (by simp;omega),heap_old _ _ _ (by simp;omega),heap_old _ _ _ (by simp;omega),heap_old _ _ _ hlt];exact hB.heap
          obtain ⟨e1,e2,e3,e4⟩:=heap_setCell (add:=add + 0) hh2 (.pointer (some ⟨β0,add0,none⟩))
          have hB2:Blk _ σ (avo A σ [(0,some [.nilp])]) 0 [.nilp] β add size c T fr:=⟨hB.sig,hh2,hB.hsz,hB.fits,fun i x hx=>let ⟨v,h1,h2⟩:=hB.vals i x hx;⟨v,h1,h2.grow hg2⟩,hB.frs⟩
          obtain ⟨hbr3,hg3⟩:=hbr2.write (l:=0) (cells':=[.rop ((el FaT).pv z) 0]) (c':=c.setIfInBounds (add + 0) (.pointer (some ⟨β0,add0,none⟩))) (by rfl) hB2 e1 e2 e3 (by simpa using hB.hsz) (by simpa using hsz)
            (fun i x hx=>by
              cases i with
              | zero=>
                simp at hx;subst hx
                have:=hB.hsz
                exact ⟨_,by rw [Array.getElem?_setIfInBounds];simp;omega,hro.grow hg2⟩
              | succ i=>simp at hx) e4
          exact ⟨_,_,[(0,some [.rop ((el FaT).pv z) 0])],σ,rfl,⟨rfl,rfl⟩,.bool _,hbr3,(hg2.trans hg3).weaken fun _ _=>trivial⟩
theorem asE0_calls {e:Option Nat}:ACalls En 30 [.ev 71 (e.map SentA.f),.iface 70 (.ptr 0 0)] [(0,some [.nilp])] fun r L=>r = .bool false ∧ L = [(0,some [.nilp])]:=by
  intro A w σ cargs hl hv hbr hg
  obtain ⟨u,u',rfl⟩:=cells2 hl
  obtain ⟨rfl,_⟩:=(hv 0 _ u rfl rfl).ev_inv
  have hu':=hv 1 _ u' rfl rfl
  cases e with
  | none=>
    refine (Go.Proofs.Sp.as_nil u' w).mono ?_
    rintro e w' ⟨rfl,rfl⟩
    exact ⟨_,_,_,σ,rfl,⟨rfl,rfl⟩,.bool _,hbr,Grow.refl _ _ _ _⟩
  | some a=>
    cases hu' with
    | iface _ p hp=>
      cases hp with
      | @ptr _ _ β add size hs=>
        obtain ⟨T5,fr5,h5⟩:=xc_cell (hg 5 _ (by rfl))
        refine (Go.Proofs.Sp.as_miss (SentA.f a) ⟨β,add + 0,none⟩ w ?_).mono ?_
        · simp [World.cell?,h5,errT]
        rintro e w' ⟨rfl,rfl⟩
        obtain ⟨hbr2,hg2⟩:=hbr.more (w':=Go.Proofs.Sp.W3 ⟨β,add + 0,none⟩ w) (by simp;omega)
          (fun γ hγ=>by rw [heap_old _ _ _ (by simp;omega),heap_old _ _ _ (by simp;omega),heap_old _ _ _ hγ]) ⟨rfl,rfl,rfl⟩
        exact ⟨_,_,_,σ,rfl,⟨rfl,rfl⟩,.bool _,hbr2,hg2.weaken fun _ _=>trivial⟩
noncomputable def asFa_c:ICon En:=⟨30,as_ar1,as_ls,as_ot1,fun a=>asFa a,Tryd.call30,fun a v h=>asF_calls h⟩
noncomputable def asE0_c:ICon En:=⟨30,as_ar0,as_ls,as_ot0,fun _=>asE0,Tryd.call30,fun a v h=>asE0_calls (e:=a)⟩
end Go.SH
set_option maxRecDepth 100000
namespace Go.SH
open Go.Proofs
variable [Sent34]
theorem stringslite_Index_cc6_dq (a:HT (Sh.hss [.h .ts,.k (.str [10])])):DF En GT (cl [idxL_c] []) Tryd.f63.ntmps Tryd.f63.results.toList (bodyOf Tryd.f63) (.seq .leaf (.seq .leaf (.seq (.blk (.join ⟨[(16,.h .tb)],[17,18,19,20,21,22,23],[],[],[]⟩ (.reg [(7,{split:=true})]) (.cond .leaf (.seq .leaf (.cond (.seq (.reg [(3,{con:=0})]) .leaf) .leaf))))) .leaf))) [.h .ts,.k (.str [10])] (.h (.ti .i64)) a = stringslite_Index_cc6 a:=by kernel_rfl
noncomputable def stringslite_Index_cc6_c:PCon En:=⟨63,[.h .ts,.k (.str [10])],.h (.ti .i64),fun a=>stringslite_Index_cc6 a,Tryd.call63,fun a v h=>DF_ok rfl En_mixed rfl En_ok Tryd.func63 rfl rfl (by decide) ((stringslite_Index_cc6_dq a).trans h)⟩
theorem stringslite_Cut_cc6_dq (a:HT (Sh.hss [.h .ts,.k (.str [10])])):DF En GT (cl [stringslite_Index_cc6_c] []) Tryd.f43.ntmps Tryd.f43.results.toList (bodyOf Tryd.f43) (.seq .leaf (.seq (.seq (.reg [(2,{con:=0})]) (.join ⟨[(12,.h .tb)],[11],[],[],[]⟩ (.reg [(1,{split:=true})]) .leaf)) .leaf)) [.h .ts,.k (.str [10])] (.tup [.h .ts,.h .ts,.h .tb]) a = stringslite_Cut_cc6 a:=by kernel_rfl
noncomputable def stringslite_Cut_cc6_c:PCon En:=⟨43,[.h .ts,.k (.str [10])],.tup [.h .ts,.h .ts,.h .tb],fun a=>stringslite_Cut_cc6 a,Tryd.call43,fun a v h=>DF_ok rfl En_mixed rfl En_ok Tryd.func43 rfl rfl (by decide) ((stringslite_Cut_cc6_dq a).trans h)⟩
theorem strings_Cut_cc6_dq (a:HT (Sh.hss [.h .ts,.k (.str [10])])):DF En GT (cl [stringslite_Cut_cc6_c] []) Tryd.f25.ntmps Tryd.f25.results.toList (bodyOf Tryd.f25) (.seq .leaf (.seq (.reg [(2,{con:=0})]) .leaf)) [.h .ts,.k (.str [10])] (.tup [.h .ts,.h .ts,.h .tb]) a = strings_Cut_cc6 a:=by kernel_rfl
noncomputable def strings_Cut_cc6_c:PCon En:=⟨25,[.h .ts,.k (.str [10])],.tup [.h .ts,.h .ts,.h .tb],fun a=>strings_Cut_cc6 a,Tryd.call25,fun a v h=>DF_ok rfl En_mixed rfl En_ok Tryd.func25 rfl rfl (by decide) ((strings_Cut_cc6_dq a).trans h)⟩
theorem stringslite_Index_1a5_dq (a:HT (Sh.hss [.h .ts,.k (.str [32])])):DF En GT (cl [idxL_c] []) Tryd.f63.ntmps Tryd.f63.results.toList (bodyOf Tryd.f63) (.seq .leaf (.seq .leaf (.seq (.blk (.join ⟨[(16,.h .tb)],[17,18,19,20,21,22,23],[],[],[]⟩ (.reg [(7,{split:=true})]) (.cond .leaf (.seq .leaf (.cond (.seq (.reg [(3,{con:=0})]) .leaf) .leaf))))) .leaf))) [.h .ts,.k (.str [32])] (.h (.ti .i64)) a = stringslite_Index_1a5 a:=by kernel_rfl
noncomputable def stringslite_Index_1a5_c:PCon En:=⟨63,[.h .ts,.k (.str [32])],.h (.ti .i64),fun a=>stringslite_Index_1a5 a,Tryd.call63,fun a v h=>DF_ok rfl En_mixed rfl En_ok Tryd.func63 rfl rfl (by decide) ((stringslite_Index_1a5_dq a).trans h)⟩
theorem stringslite_Cut_1a5_dq (a:HT (Sh.hss [.h .ts,.k (.str [32])])):DF En GT (cl [stringslite_Index_1a5_c] []) Tryd.f43.ntmps Tryd.f43.results.toList (bodyOf Tryd.f43) (.seq .leaf (.seq (.seq (.reg [(2,{con:=0})]) (.join ⟨[(12,.h .tb)],[11],[],[],[]⟩ (.reg [(1,{split:=true})]) .leaf)) .leaf)) [.h .ts,.k (.str [32])] (.tup [.h .ts,.h .ts,.h .tb]) a = stringslite_Cut_1a5 a:=by kernel_rfl
noncomputable def stringslite_Cut_1a5_c:PCon En:=⟨43,[.h .ts,.k (.str [32])],.tup [.h .ts,.h .ts,.h .tb],fun a=>stringslite_Cut_1a5 a,Tryd.call43,fun a v h=>DF_ok rfl En_mixed rfl En_ok Tryd.func43 rfl rfl (by decide) ((stringslite_Cut_1a5_dq a).trans h)⟩
theorem strings_Cut_1a5_dq (a:HT (Sh.hss [.h .ts,.k (.str [32])])):DF En GT (cl [stringslite_Cut_1a5_c] []) Tryd.f25.ntmps Tryd.f25.results.toList (bodyOf Tryd.f25) (.seq .leaf (.seq (.reg [(2,{con:=0})]) .leaf)) [.h .ts,.k (.str [32])] (.tup [.h .ts,.h .ts,.h .tb]) a = strings_Cut_1a5 a:=by kernel_rfl
noncomputable def strings_Cut_1a5_c:PCon En:=⟨25,[.h .ts,.k (.str [32])],.tup [.h .ts,.h .ts,.h .tb],fun a=>strings_Cut_1a5 a,Tryd.call25,fun a v h=>DF_ok rfl En_mixed rfl En_ok Tryd.func25 rfl rfl (by decide) ((strings_Cut_1a5_dq a).trans h)⟩
theorem script_form_dq (a:HT (Sh.hss [.h .ts])):DF En GT noC Tryd.f44.ntmps Tryd.f44.results.toList (bodyOf Tryd.f44) (.seq .leaf (.seq (.seq .leaf (.blk (.join ⟨[(4,.h .tb)],[5,6],[],[],[]⟩ (.join ⟨[(4,.h .tb)],[5],[],[],[]⟩ (.reg [(1,{split:=true})]) (.cond .leaf (.reg [(1,{split:=true})]))) (.cond .leaf (.join ⟨[(7,.h .tb)],[8,9,10],[],[],[]⟩ (.join ⟨[(7,.h .tb)],[8],[],[],[]⟩ (.reg [(1,{split:=true})]) (.cond .leaf (.join ⟨[(7,.h .tb)],[9],[],[],[]⟩ (.reg [(1,{split:=true})]) (.cond .leaf (.reg [(1,{split:=true})]))))) (.cond .leaf (.join ⟨[(11,.h .tb)],[12],[],[],[]⟩ (.reg [(1,{split:=true})]) (.cond .leaf (.join ⟨[(13,.h .tb)],[14],[],[],[]⟩ (.reg [(1,{split:=true})]) (.cond .leaf (.join ⟨[(15,.h .tb)],[16],[],[],[]⟩ (.reg [(1,{split:=true})]) (.cond .leaf (.join ⟨[(17,.h .tb)],[18],[],[],[]⟩ (.reg [(1,{split:=true})]) (.cond .leaf (.join ⟨[(19,.h .tb)],[20],[],[],[]⟩ (.reg [(1,{split:=true})]) (.cond .leaf (.join ⟨[(21,.h .tb)],[22],[],[],[]⟩ (.reg [(1,{split:=true})]) (.cond .leaf (.join ⟨[(23,.h .tb)],[24],[],[],[]⟩ (.reg [(1,{split:=true})]) (.cond .leaf (.join ⟨[(25,.h .tb)],[26],[],[],[]⟩ (.reg [(1,{split:=true})]) .leaf))))))))))))))))))))) .leaf)) [.h .ts] (.h .ts) a = script_form a:=by kernel_rfl
noncomputable def script_form_c:PCon En:=⟨44,[.h .ts],.h .ts,fun a=>script_form a,Tryd.call44,fun a v h=>DF_ok rfl En_mixed rfl En_ok Tryd.func44 rfl rfl (by decide) ((script_form_dq a).trans h)⟩
theorem strings_Index_1a5_dq (a:HT (Sh.hss [.h .ts,.k (.str [32])])):DF En GT (cl [stringslite_Index_1a5_c] []) Tryd.f81.ntmps Tryd.f81.results.toList (bodyOf Tryd.f81) (.seq .leaf (.seq (.reg [(2,{con:=0})]) .leaf)) [.h .ts,.k (.str [32])] (.h (.ti .i64)) a = strings_Index_1a5 a:=by kernel_rfl
noncomputable def strings_Index_1a5_c:PCon En:=⟨81,[.h .ts,.k (.str [32])],.h (.ti .i64),fun a=>strings_Index_1a5 a,Tryd.call81,fun a v h=>DF_ok rfl En_mixed rfl En_ok Tryd.func81 rfl rfl (by decide) ((strings_Index_1a5_dq a).trans h)⟩
theorem strings_genSplit_92d_dq (a:HT (Sh.hss [.h .ts,.k (.str [32]),.h (.ti .i64),.h (.ti .i64)])):DF En GT (cl [strings_Index_1a5_c] []) Tryd.f64.ntmps Tryd.f64.results.toList (bodyOf Tryd.f64) (.seq .leaf (.seq (.join ⟨[(13,.h .tb)],[12],[],[],[]⟩ (.reg [(1,{split:=true})]) .leaf) (.seq .leaf (.seq (.join ⟨[(20,.h .tb)],[19],[],[],[]⟩ (.reg [(1,{split:=true})]) (.cond (.reg [(2,{con:=99})]) .leaf)) (.seq .leaf (.seq .leaf (.seq .leaf (.seq .leaf (.seq (.blk (.loop ⟨[(0,.h .ts),(10,.h (.ti .i64))],[11,34,35,36,37,38,39,40,41,42,43,44,45,46,47,48,49,50,51,52,53,54,55,56,57],[(0,.ls .ts)],[],[]⟩ [(.exit 0,⟨[(0,.h .ts),(10,.h (.ti .i64))],[11,34,35,36,37,38,39,40,41,42,43,44,45,46,47,48,49,50,51,52,53,54,55,56,57],[(0,.ls .ts)],[],[]⟩)] (.seq (.join ⟨[(36,.h .tb)],[34,35],[],[],[]⟩ (.reg [(2,{split:=true})]) .leaf) (.blk (.seq (.reg [(2,{con:=0})]) (.seq (.join ⟨[(41,.h .tb)],[40],[],[],[]⟩ (.reg [(1,{split:=true})]) .leaf) .leaf)))))) .leaf))))))))) [.h .ts,.k (.str [32]),.h (.ti .i64),.h (.ti .i64)] (.h (.tl .ts)) a = strings_genSplit_92d a.1 a.2.1 a.2.2:=by kernel_rfl
noncomputable def strings_genSplit_92d_c:PCon En:=⟨64,[.h .ts,.k (.str [32]),.h (.ti .i64),.h (.ti .i64)],.h (.tl .ts),fun a=>strings_genSplit_92d a.1 a.2.1 a.2.2,Tryd.call64,fun a v h=>DF_ok rfl En_mixed rfl En_ok Tryd.func64 rfl rfl (by decide) ((strings_genSplit_92d_dq a).trans h)⟩
theorem strings_SplitN_02b_dq (a:HT (Sh.hss [.h .ts,.k (.str [32]),.h (.ti .i64)])):DF En GT (cl [strings_genSplit_92d_c] []) Tryd.f45.ntmps Tryd.f45.results.toList (bodyOf Tryd.f45) (.seq .leaf (.seq (.reg [(3,{con:=0})]) .leaf)) [.h .ts,.k (.str [32]),.h (.ti .i64)] (.h (.tl .ts)) a = strings_SplitN_02b a.1 a.2:=by kernel_rfl
noncomputable def strings_SplitN_02b_c:PCon En:=⟨45,[.h .ts,.k (.str [32]),.h (.ti .i64)],.h (.tl .ts),fun a=>strings_SplitN_02b a.1 a.2,Tryd.call45,fun a v h=>DF_ok rfl En_mixed rfl En_ok Tryd.func45 rfl rfl (by decide) ((strings_SplitN_02b_dq a).trans h)⟩
theorem script_choice_dq (a:HT (Sh.hss [.h .ts,.h .ts,.h .ts])):DF En GT noC Tryd.f65.ntmps Tryd.f65.results.toList (bodyOf Tryd.f65) (.seq .leaf (.seq (.seq .leaf (.blk (.join ⟨[(9,.h .tb)],[10,11],[],[],[]⟩ (.reg [(2,{split:=true})]) (.cond .leaf (.join ⟨[(13,.h .tb)],[14,15],[],[],[]⟩ (.reg [(2,{split:=true})]) .leaf))))) .leaf)) [.h .ts,.h .ts,.h .ts] (.tup [.st (.tp (.ti .i64) (.tl .tu)),.h (.te 71)]) a = script_choice a.1 a.2.1 a.2.2:=by kernel_rfl
noncomputable def script_choice_c:PCon En:=⟨65,[.h .ts,.h .ts,.h .ts],.tup [.st (.tp (.ti .i64) (.tl .tu)),.h (.te 71)],fun a=>script_choice a.1 a.2.1 a.2.2,Tryd.call65,fun a v h=>DF_ok rfl En_mixed rfl En_ok Tryd.func65 rfl rfl (by decide) ((script_choice_dq a).trans h)⟩
theorem script_plain_dq (a:HT (Sh.hss [.h .tu])):DF En GT noC Tryd.f73.ntmps Tryd.f73.results.toList (bodyOf Tryd.f73) (.seq .leaf (.seq (.reg [(2,{split:=true}),(6,{split:=true}),(10,{split:=true})]) .leaf)) [.h .tu] (.h .tb) a = script_plain a:=by kernel_rfl
noncomputable def script_plain_c:PCon En:=⟨73,[.h .tu],.h .tb,fun a=>script_plain a,Tryd.call73,fun a v h=>DF_ok rfl En_mixed rfl En_ok Tryd.func73 rfl rfl (by decide) ((script_plain_dq a).trans h)⟩
theorem script_text_dq (a:HT (Sh.hss [.h .ts,.h (.ti .i64),.h (.ti .i64)])):DF En GT (cl [script_plain_c,idxB_c] []) Tryd.f66.ntmps Tryd.f66.results.toList (bodyOf Tryd.f66) (.seq .leaf (.seq (.join ⟨[(28,.h .tb)],[13,14,15,16,17,18,19,20,21,22,23,24,25,26,27],[],[],[]⟩ (.reg [(3,{split:=true}),(8,{split:=true}),(15,{split:=true})]) .leaf) (.seq .leaf (.seq .leaf (.seq (.seq .leaf (.blk (.loop ⟨[(8,.rww 1 1),(9,.h (.ti .i64))],[10,11,12,36,37,38,39,40,41,42,43,44,45,46,47,48,49,50,51,52,53,54,55,56,59,60,61,62,63,64,65,66,67,68,69,70,71,72,73,74,75,76,77,78,79,80,81,82,85,86,87,88,89,90,91,92,93,94,95],[(1,.ls .tu)],[],[]⟩ [(.ret,⟨[(7,.h (.te 71))],[8,9,10,11,12,36,37,38,39,40,41,42,43,44,45,46,47,48,49,50,51,52,53,54,55,56,57,58,59,60,61,62,63,64,65,66,67,68,69,70,71,72,73,74,75,76,77,78,79,80,81,82,83,84,85,86,87,88,89,90,91,92,93,94,95],[],[(0,0,.k (.int .i64 0)),(0,1,.k .nils)],[]⟩),(.exit 0,⟨[(8,.rww 1 1)],[9,10,11,12,36,37,38,39,40,41,42,43,44,45,46,47,48,49,50,51,52,53,54,55,56,59,60,61,62,63,64,65,66,67,68,69,70,71,72,73,74,75,76,77,78,79,80,81,82,85,86,87,88,89,90,91,92,93,94,95],[(1,.ls .tu)],[],[]⟩)] (.seq (.join ⟨[(39,.h .tb)],[36,37,38],[],[],[]⟩ (.reg [(3,{split:=true})]) .leaf) (.seq (.blk (.seq .leaf (.joinX ⟨[(9,.h (.ti .i64)),(10,.h .tu)],[11,12,45,46,47,48,49,50,51,52,53,54,55,56,59,60,61,62,63,64,65,66,67,68,69,70,71,72,73,74,75,76,77,78,79,80,81,82,85,86,87,88,89,90,91],[],[],[]⟩ (.join ⟨[(47,.h .tb)],[45,46],[],[],[]⟩ (.reg [(1,{con:=0}),(2,{split:=true})]) (.cond (.seq (.join ⟨[(56,.h .tb)],[48,49,50,51,52,53,54,55],[],[],[]⟩ (.reg [(2,{split:=true}),(8,{split:=true})]) .leaf) (.seq (.reg [(4,{con:=1}),(9,{con:=1})]) (.seq (.join ⟨[(82,.h .tb)],[69,70,71,72,73,74,75,76,77,78,79,80,81],[],[],[]⟩ (.reg [(2,{split:=true}),(6,{split:=true}),(12,{con:=0}),(13,{split:=true})]) .leaf) .leaf))) .leaf)) .leaf))) .leaf))))) (.seq (.join ⟨[(105,.h .tb)],[96,97,98,99,100,101,102,103,104],[],[],[]⟩ (.reg [(4,{split:=true}),(9,{split:=true})]) .leaf) .leaf)))))) [.h .ts,.h (.ti .i64),.h (.ti .i64)] (.tup [.st (.tp (.ti .i64) (.tl .tu)),.h (.te 71)]) a = script_text a.1 a.2.1 a.2.2:=by kernel_rfl
noncomputable def script_text_c:PCon En:=⟨66,[.h .ts,.h (.ti .i64),.h (.ti .i64)],.tup [.st (.tp (.ti .i64) (.tl .tu)),.h (.te 71)],fun a=>script_text a.1 a.2.1 a.2.2,Tryd.call66,fun a v h=>DF_ok rfl En_mixed rfl En_ok Tryd.func66 rfl rfl (by decide) ((script_text_dq a).trans h)⟩
theorem script_bounds_dq (a:HT (Sh.hss [.h .tu])):DF En GT noC Tryd.f83.ntmps Tryd.f83.results.toList (bodyOf Tryd.f83) (.seq .leaf (.seq (.seq .leaf (.blk (.join ⟨[(5,.h .tb)],[6],[],[],[]⟩ (.reg [(1,{split:=true})]) (.cond .leaf (.join ⟨[(7,.h .tb)],[8],[],[],[]⟩ (.reg [(1,{split:=true})]) (.cond .leaf (.join ⟨[(9,.h .tb)],[10],[],[],[]⟩ (.reg [(1,{split:=true})]) (.cond .leaf (.join ⟨[(11,.h .tb)],[12],[],[],[]⟩ (.reg [(1,{split:=true})]) (.cond .leaf (.join ⟨[(13,.h .tb)],[14],[],[],[]⟩ (.reg [(1,{split:=true})]) .leaf))))))))))) .leaf)) [.h .tu] (.tup [.h (.ti .i64),.h (.ti .i64)]) a = script_bounds a:=by kernel_rfl
noncomputable def script_bounds_c:PCon En:=⟨83,[.h .tu],.tup [.h (.ti .i64),.h (.ti .i64)],fun a=>script_bounds a,Tryd.call83,fun a v h=>DF_ok rfl En_mixed rfl En_ok Tryd.func83 rfl rfl (by decide) ((script_bounds_dq a).trans h)⟩
theorem script_number_dq (a:HT (Sh.hss [.h .ts,.h .tu])):DF En GT (cl [script_bounds_c] []) Tryd.f67.ntmps Tryd.f67.results.toList (bodyOf Tryd.f67) (.seq .leaf (.seq (.reg [(1,{con:=0})]) (.seq .leaf (.seq (.join ⟨[(31,.h .tb)],[15,16,17,18,19,20,21,22,23,24,25,26,27,28,29,30],[],[],[]⟩ (.reg [(2,{split:=true}),(7,{split:=true}),(11,{split:=true}),(16,{split:=true})]) .leaf) (.seq (.seq .leaf (.blk (.loop ⟨[(8,.h (.ti .i64)),(36,.h (.ti .i64))],[9,37,38,39,40,41,42,43,44,45,46,47,48,51,52,53,54,55,56,57,58,59],[],[],[]⟩ [(.ret,⟨[(5,.h (.te 71))],[8,9,36,37,38,39,40,41,42,43,44,45,46,47,48,49,50,51,52,53,54,55,56,57,58,59],[],[(0,0,.k (.int .i64 0)),(0,1,.k .nils)],[]⟩),(.exit 0,⟨[(8,.h (.ti .i64))],[9,36,37,38,39,40,41,42,43,44,45,46,47,48,51,52,53,54,55,56,57,58,59],[],[],[]⟩)] (.join ⟨[(37,.h .tb)],[],[],[],[]⟩ (.reg [(0,{split:=true})]) (.seq .leaf (.seq (.blk (.seq .leaf (.seq (.join ⟨[(48,.h .tb)],[39,40,41,42,43,44,45,46,47],[],[],[]⟩ (.reg [(4,{split:=true}),(9,{split:=true})]) .leaf) .leaf))) .leaf)))))) (.seq (.join ⟨[(67,.h .tb)],[60,61,62,63,64,65,66],[],[],[]⟩ (.reg [(3,{split:=true}),(7,{split:=true})]) .leaf) .leaf)))))) [.h .ts,.h .tu] (.tup [.st (.tp (.ti .i64) (.tl .tu)),.h (.te 71)]) a = script_number a.1 a.2:=by kernel_rfl
noncomputable def script_number_c:PCon En:=⟨67,[.h .ts,.h .tu],.tup [.st (.tp (.ti .i64) (.tl .tu)),.h (.te 71)],fun a=>script_number a.1 a.2,Tryd.call67,fun a v h=>DF_ok rfl En_mixed rfl En_ok Tryd.func67 rfl rfl (by decide) ((script_number_dq a).trans h)⟩
theorem script_read_dq (a:HT (Sh.hss [.h .ts,.h .tu])):DF En GT (cl [script_choice_c,script_text_c,script_number_c] []) Tryd.f46.ntmps Tryd.f46.results.toList (bodyOf Tryd.f46) (.seq .leaf (.seq (.seq .leaf (.blk (.join ⟨[(7,.h .tb)],[8],[],[],[]⟩ (.reg [(1,{split:=true})]) (.cond (.seq (.reg [(1,{con:=0})]) .leaf) (.join ⟨[(13,.h .tb)],[14],[],[],[]⟩ (.reg [(1,{split:=true})]) (.cond (.seq (.reg [(1,{con:=0})]) .leaf) (.join ⟨[(19,.h .tb)],[20],[],[],[]⟩ (.reg [(1,{split:=true})]) (.cond (.seq (.reg [(1,{con:=1})]) .leaf) (.join ⟨[(25,.h .tb)],[26],[],[],[]⟩ (.reg [(1,{split:=true})]) (.cond (.seq (.reg [(1,{con:=1})]) .leaf) .leaf)))))))))) (.seq (.reg [(2,{con:=2})]) .leaf))) [.h .ts,.h .tu] (.tup [.st (.tp (.ti .i64) (.tl .tu)),.h (.te 71)]) a = script_read a.1 a.2:=by kernel_rfl
noncomputable def script_read_c:PCon En:=⟨46,[.h .ts,.h .tu],.tup [.st (.tp (.ti .i64) (.tl .tu)),.h (.te 71)],fun a=>script_read a.1 a.2,Tryd.call46,fun a v h=>DF_ok rfl En_mixed rfl En_ok Tryd.func46 rfl rfl (by decide) ((script_read_dq a).trans h)⟩
theorem script_event_dq (a:HT (Sh.hss [.h .ts,.h (.tl (.tp (.ti .i64) (.tl .tu)))])):DF En GT noC Tryd.f47.ntmps Tryd.f47.results.toList (bodyOf Tryd.f47) (.seq .leaf (.seq .leaf (.join ⟨[],[11,12,13,14,15,16,17,18,19,20,21,22,23,24,25,26,27,28,29,30,31,32,33,34,35,36,37,38,39,40,41,42,43,44,45,46,47,48,49,50,51,52,53,54,55,56,57,58,59,60,61,62,63,64,65,66,67,68,69,70,71,72,73,74,75,76,77,78,79,80,81,82,83,84,85,86,87,88,89,90,91,92,93,94,95,96,97,98,99,100,101,102,103,104,105,106,107,108,109,110,111,112,113,114,115,116,117,118],[],[(1,0,.h (.ti .i64)),(1,1,.h (.ti .i64)),(1,2,.h (.ti .i64)),(1,3,.h (.ti .i64)),(1,4,.h (.ti .i64)),(1,5,.h (.ti .i64)),(1,6,.h (.tl .tu)),(1,7,.h (.ti .i64)),(1,8,.h (.ti .i64)),(1,9,.h (.tl .tu))],[]⟩ (.seq .leaf (.blk (.join ⟨[(12,.h .tb)],[13,14],[],[],[]⟩ (.join ⟨[(12,.h .tb)],[13],[],[],[]⟩ (.reg [(1,{split:=true})]) (.cond .leaf (.reg [(1,{split:=true})]))) (.cond (.seq .leaf (.join ⟨[(23,.h .tb)],[22],[],[],[]⟩ (.reg [(1,{split:=true})]) .leaf)) (.join ⟨[(25,.h .tb)],[26],[],[],[]⟩ (.reg [(1,{split:=true})]) (.cond .leaf (.join ⟨[(28,.h .tb)],[29],[],[],[]⟩ (.reg [(1,{split:=true})]) (.cond .leaf (.join ⟨[(33,.h .tb)],[34],[],[],[]⟩ (.reg [(1,{split:=true})]) (.cond .leaf (.join ⟨[(38,.h .tb)],[39],[],[],[]⟩ (.reg [(1,{split:=true})]) (.cond .leaf (.join ⟨[(47,.h .tb)],[48],[],[],[]⟩ (.reg [(1,{split:=true})]) (.cond .leaf (.join ⟨[(60,.h .tb)],[61],[],[],[]⟩ (.reg [(1,{split:=true})]) (.cond .leaf (.join ⟨[(68,.h .tb)],[69],[],[],[]⟩ (.reg [(1,{split:=true})]) (.cond .leaf (.join ⟨[(75,.h .tb)],[76],[],[],[]⟩ (.reg [(1,{split:=true})]) (.cond .leaf (.join ⟨[(82,.h .tb)],[83],[],[],[]⟩ (.reg [(1,{split:=true})]) (.cond .leaf (.join ⟨[(93,.h .tb)],[94],[],[],[]⟩ (.reg [(1,{split:=true})]) (.cond .leaf (.join ⟨[(101,.h .tb)],[102],[],[],[]⟩ (.reg [(1,{split:=true})]) .leaf))))))))))))))))))))))))) .leaf))) [.h .ts,.h (.tl (.tp (.ti .i64) (.tl .tu)))] (.st (.tp (.ti .i64) K5605)) a = script_event a.1 a.2:=by kernel_rfl
noncomputable def script_event_c:PCon En:=⟨47,[.h .ts,.h (.tl (.tp (.ti .i64) (.tl .tu)))],.st (.tp (.ti .i64) K5605),fun a=>script_event a.1 a.2,Tryd.call47,fun a v h=>DF_ok rfl En_mixed rfl En_ok Tryd.func47 rfl rfl (by decide) ((script_event_dq a).trans h)⟩
theorem script_parse_dq (a:HT (Sh.hss [.h .ts])):DF En GT (cl [strings_Cut_1a5_c,script_form_c,strings_SplitN_02b_c,script_read_c,script_event_c] []) Tryd.f26.ntmps Tryd.f26.results.toList (bodyOf Tryd.f26) (.seq .leaf (.seq (.reg [(1,{con:=0})]) (.seq (.reg [(1,{con:=1})]) (.seq (.join ⟨[(26,.h .tb)],[21,22,23,24,25],[],[],[]⟩ (.reg [(2,{split:=true}),(5,{split:=true})]) .leaf) (.seq (.reg [(3,{con:=2})]) (.seq (.join ⟨[(37,.h .tb)],[33,34,35,36],[],[],[]⟩ (.reg [(4,{split:=true})]) .leaf) (.seq .leaf (.seq (.seq .leaf (.blk (.loop ⟨[(9,.rww 1 2),(42,.h (.ti .i64))],[10,11,12,43,44,45,46,47,48,49,50,51,52,53,54,55,56,57,60,61,62,63,64],[(1,.ls (.tp (.ti .i64) (.tl .tu)))],[],[]⟩ [(.ret,⟨[(3,.h (.te 71))],[9,10,11,12,42,43,44,45,46,47,48,49,50,51,52,53,54,55,56,57,58,59,60,61,62,63,64],[],[(0,0,.k (.int .i64 0)),(0,1,.k (.int .i64 0)),(0,2,.k (.int .i64 0)),(0,3,.k (.int .i64 0)),(0,4,.k (.int .i64 0)),(0,5,.k (.int .i64 0)),(0,6,.k .nils),(0,7,.k (.int .i64 0)),(0,8,.k (.int .i64 0)),(0,9,.k .nils)],[]⟩),(.exit 0,⟨[(9,.rww 1 2)],[10,11,12,42,43,44,45,46,47,48,49,50,51,52,53,54,55,56,57,60,61,62,63,64],[(1,.ls (.tp (.ti .i64) (.tl .tu)))],[],[]⟩)] (.join ⟨[(43,.h .tb)],[],[],[],[]⟩ (.reg [(0,{split:=true})]) (.seq .leaf (.seq (.blk (.seq .leaf (.seq (.reg [(7,{con:=3})]) (.seq (.join ⟨[(57,.h .tb)],[56],[],[],[]⟩ (.reg [(1,{split:=true})]) .leaf) .leaf)))) .leaf)))))) (.seq (.reg [(2,{fz:=[(66,.tp (.ti .i64) (.tl .tu))],con:=4})]) .leaf))))))))) [.h .ts] (.tup [.st (.tp (.ti .i64) K5605),.h (.te 71)]) a = script_parse a:=by kernel_rfl
noncomputable def script_parse_c:PCon En:=⟨26,[.h .ts],.tup [.st (.tp (.ti .i64) K5605),.h (.te 71)],fun a=>script_parse a,Tryd.call26,fun a v h=>DF_ok rfl En_mixed rfl En_ok Tryd.func26 rfl rfl (by decide) ((script_parse_dq a).trans h)⟩
theorem script_in_dq (a:HT (Sh.hss [.h (.te 71),.h (.ti .i64)])):DF En GT (cl [] [asE0_c]) Tryd.f27.ntmps Tryd.f27.results.toList (bodyOf Tryd.f27) (.seq .leaf (.seq .leaf (.seq (.seq (.reg [(2,{io:=some 0})]) .leaf) .leaf))) [.h (.te 71),.h (.ti .i64)] (.h (.to 35 (.tp (.ti .i64) (.te 71)))) a = script_in a.1 a.2:=by kernel_rfl
noncomputable def script_in_c:PCon En:=⟨27,[.h (.te 71),.h (.ti .i64)],.h (.to 35 (.tp (.ti .i64) (.te 71))),fun a=>script_in a.1 a.2,Tryd.call27,fun a v h=>DF_ok rfl En_mixed rfl En_ok Tryd.func27 rfl rfl (by decide) ((script_in_dq a).trans h)⟩
theorem script_Parse_dq (a:HT (Sh.hss [.h .ts])):DF En GT (cl [strings_Cut_cc6_c,script_parse_c,script_in_c] []) Tryd.f12.ntmps Tryd.f12.results.toList (bodyOf Tryd.f12) (.seq .leaf (.seq .leaf (.seq (.seq .leaf (.blk (.loop ⟨[(0,.h .ts),(4,.rww 0 10),(5,.h (.ti .i64))],[6,7,8,9,10,11,12,13,14,15,16,17,18,19,20,21,22,23,24,25,26,27,28,29,30,31,32,33,34,35,36,37,38,39,40,41,42,43,44,48],[(0,.ls (.tp (.ti .i64) K5605))],[],[]⟩ [(.ret,⟨[(2,.k .nils),(3,.h (.to 35 (.tp (.ti .i64) (.te 71))))],[0,4,5,6,7,8,9,10,11,12,13,14,15,16,17,18,19,20,21,22,23,24,25,26,27,28,29,30,31,32,33,34,35,36,37,38,39,40,41,42,43,44,45,46,47,48],[],[],[]⟩),(.exit 0,⟨[(4,.rww 0 10)],[0,5,6,7,8,9,10,11,12,13,14,15,16,17,18,19,20,21,22,23,24,25,26,27,28,29,30,31,32,33,34,35,36,37,38,39,40,41,42,43,44,48],[(0,.ls (.tp (.ti .i64) K5605))],[],[]⟩)] (.seq (.join ⟨[(12,.h .tb)],[11],[],[],[]⟩ (.reg [(1,{split:=true})]) .leaf) (.seq (.blk (.seq (.reg [(1,{con:=0})]) (.seq .leaf (.join ⟨[(4,.rww 1 10),(9,.h (.te 71))],[10,21,22,23,24,25,26,27,28,29,30,31,32,33,34,35,36,37,38,39,40,41,42],[(1,.ls (.tp (.ti .i64) K5605))],[],[0]⟩ (.blk (.join ⟨[(30,.h .tb)],[31,32,33,34,35,36,37],[],[],[]⟩ (.reg [(3,{split:=true}),(7,{split:=true})]) (.cond .leaf (.join ⟨[(39,.h .tb)],[40,41],[],[],[]⟩ (.reg [(2,{split:=true})]) (.cond .leaf (.seq .leaf (.seq (.reg [(1,{con:=1})]) .leaf))))))) (.seq (.join ⟨[(44,.h .tb)],[43],[],[],[]⟩ (.reg [(1,{split:=true})]) (.cond (.seq (.reg [(2,{con:=2})]) .leaf) .leaf)) .leaf))))) .leaf))))) .leaf))) [.h .ts] (.tup [.h (.tl (.tp (.ti .i64) K5605)),.h (.to 35 (.tp (.ti .i64) (.te 71)))]) a = script_Parse a:=by kernel_rfl
noncomputable def script_Parse_c:PCon En:=⟨12,[.h .ts],.tup [.h (.tl (.tp (.ti .i64) K5605)),.h (.to 35 (.tp (.ti .i64) (.te 71)))],fun a=>script_Parse a,Tryd.call12,fun a v h=>DF_ok rfl En_mixed rfl En_ok Tryd.func12 rfl rfl (by decide) ((script_Parse_dq a).trans h)⟩
theorem oriellaw34_fault_dq (a:HT (Sh.hss [.h (.to 35 (.tp (.ti .i64) (.te 71)))])):DF En GT (cl [isF_c] [asFa_c]) Tryd.f15.ntmps Tryd.f15.results.toList (bodyOf Tryd.f15) (.seq .leaf (.seq .leaf (.seq (.join ⟨[(17,.h .tb)],[6,7,8,9,10,11,12,13,14,15,16],[],[(0,0,.h (.tq (.tp (.ti .i64) (.te 71))))],[]⟩ (.reg [(2,{split:=true}),(5,{io:=some 0}),(8,{split:=true}),(11,{split:=true})]) .leaf) (.seq .leaf (.join ⟨[(5,.h (.ti .i64))],[18,19,20,21,22,23,24,25,26,27,28,29,30,31,32,33,34,35,36,37],[],[],[]⟩ (.blk (.join ⟨[(18,.h .tb)],[19,20,21],[],[],[]⟩ (.reg [(2,{con:=0}),(3,{split:=true})]) (.cond .leaf (.join ⟨[(22,.h .tb)],[23,24,25],[],[],[]⟩ (.reg [(2,{con:=0}),(3,{split:=true})]) (.cond .leaf (.join ⟨[(26,.h .tb)],[27,28,29],[],[],[]⟩ (.reg [(2,{con:=0}),(3,{split:=true})]) (.cond .leaf (.join ⟨[(30,.h .tb)],[31,32,33],[],[],[]⟩ (.reg [(2,{con:=0}),(3,{split:=true})]) (.cond .leaf (.join ⟨[(34,.h .tb)],[35,36,37],[],[],[]⟩ (.reg [(2,{con:=0}),(3,{split:=true})]) .leaf)))))))))) .leaf))))) [.h (.to 35 (.tp (.ti .i64) (.te 71)))] (.tup [.h (.ti .i64),.h (.ti .i64)]) a = oriellaw34_fault a:=by kernel_rfl
noncomputable def oriellaw34_fault_c:PCon En:=⟨15,[.h (.to 35 (.tp (.ti .i64) (.te 71)))],.tup [.h (.ti .i64),.h (.ti .i64)],fun a=>oriellaw34_fault a,Tryd.call15,fun a v h=>DF_ok rfl En_mixed rfl En_ok Tryd.func15 rfl rfl (by decide) ((oriellaw34_fault_dq a).trans h)⟩
theorem script_quoted_dq (a:HT (Sh.hss [.h (.tl .tu)])):DF En GT (cl [script_plain_c] []) Tryd.f59.ntmps Tryd.f59.results.toList (bodyOf Tryd.f59) (.seq .leaf (.seq .leaf (.seq (.seq .leaf (.blk (.loop ⟨[(3,.rww 1 1),(9,.h (.ti .i64))],[5,6,10,11,12,13,14,15,16,17,18,19,20,21,22,23,24,25,26,27,28],[(1,.ls .tu)],[],[0]⟩ [(.exit 0,⟨[(3,.rww 1 1)],[5,6,9,10,11,12,13,14,15,16,17,18,19,20,21,22,23,24,25,26,27,28],[(1,.ls .tu)],[],[0]⟩)] (.join ⟨[(10,.h .tb)],[],[],[],[]⟩ (.reg [(0,{split:=true})]) (.seq .leaf (.join ⟨[(3,.rww 2 1)],[5,11,12,13,14,15,16,17,18,19,20,21,22,23,24,25,26,27],[(2,.ls .tu)],[],[1]⟩ (.blk (.seq .leaf (.join ⟨[(14,.h .tb)],[13],[],[],[]⟩ (.reg [(1,{split:=true,con:=0})]) .leaf))) .leaf)))))) .leaf))) [.h (.tl .tu)] (.h .ts) a = script_quoted a:=by kernel_rfl
noncomputable def script_quoted_c:PCon En:=⟨59,[.h (.tl .tu)],.h .ts,fun a=>script_quoted a,Tryd.call59,fun a v h=>DF_ok rfl En_mixed rfl En_ok Tryd.func59 rfl rfl (by decide) ((script_quoted_dq a).trans h)⟩
theorem script_words_dq (a:HT (Sh.hss [.st (.tp (.ti .i64) K5605)])):DF En GT (cl [itoa_c,script_quoted_c] []) Tryd.f35.ntmps Tryd.f35.results.toList (bodyOf Tryd.f35) (.seq .leaf (.seq .leaf (.seq .leaf (.join ⟨[(4,.h .ts)],[5,6,7,8,9,10],[],[],[]⟩ (.seq .leaf (.blk (.join ⟨[(7,.h .tb)],[8],[],[],[]⟩ (.reg [(1,{split:=true})]) (.cond .leaf (.join ⟨[(9,.h .tb)],[10],[],[],[]⟩ (.reg [(1,{split:=true})]) .leaf))))) (.seq (.seq .leaf (.blk (.join ⟨[(13,.h .tb)],[14],[],[],[]⟩ (.reg [(1,{split:=true})]) (.cond (.seq (.reg [(3,{con:=0})]) .leaf) (.join ⟨[(22,.h .tb)],[23],[],[],[]⟩ (.reg [(1,{split:=true})]) (.cond (.seq (.reg [(3,{con:=0})]) .leaf) (.join ⟨[(29,.h .tb)],[30],[],[],[]⟩ (.reg [(1,{split:=true})]) (.cond (.seq (.reg [(3,{con:=0})]) .leaf) (.join ⟨[(38,.h .tb)],[39],[],[],[]⟩ (.reg [(1,{split:=true})]) (.cond (.seq (.reg [(2,{con:=1})]) .leaf) (.join ⟨[(44,.h .tb)],[45],[],[],[]⟩ (.reg [(1,{split:=true})]) (.cond (.seq (.seq .leaf (.blk (.join ⟨[(49,.h .tb)],[50],[],[],[]⟩ (.reg [(1,{split:=true})]) (.cond (.seq (.reg [(3,{con:=0}),(9,{con:=1})]) .leaf) (.join ⟨[(62,.h .tb)],[63],[],[],[]⟩ (.reg [(1,{split:=true})]) (.cond (.seq (.reg [(3,{con:=0}),(10,{con:=0}),(17,{con:=0})]) .leaf) (.join ⟨[(83,.h .tb)],[84],[],[],[]⟩ (.reg [(1,{split:=true})]) (.cond (.seq (.reg [(3,{con:=0})]) .leaf) .leaf)))))))) (.seq (.reg [(3,{con:=0})]) .leaf)) (.join ⟨[(95,.h .tb)],[96],[],[],[]⟩ (.reg [(1,{split:=true})]) (.cond (.seq (.reg [(3,{con:=0})]) .leaf) (.join ⟨[(102,.h .tb)],[103],[],[],[]⟩ (.reg [(1,{split:=true})]) (.cond (.seq (.reg [(3,{con:=0})]) .leaf) (.join ⟨[(109,.h .tb)],[110],[],[],[]⟩ (.reg [(1,{split:=true})]) (.cond (.seq (.reg [(3,{con:=0}),(9,{con:=0})]) .leaf) (.join ⟨[(122,.h .tb)],[123],[],[],[]⟩ (.reg [(1,{split:=true})]) (.cond (.seq (.reg [(3,{con:=0}),(9,{con:=0})]) .leaf) .leaf)))))))))))))))))))) (.seq (.join ⟨[(137,.h .tb)],[135,136],[],[],[]⟩ (.reg [(2,{split:=true})]) (.cond (.seq (.reg [(3,{con:=0}),(9,{con:=0}),(14,{con:=1})]) .leaf) .leaf)) (.seq (.reg [(3,{con:=0}),(9,{con:=0}),(14,{con:=1})]) .leaf))))))) [.st (.tp (.ti .i64) K5605)] (.h .ts) a = script_words a:=by kernel_rfl
noncomputable def script_words_c:PCon En:=⟨35,[.st (.tp (.ti .i64) K5605)],.h .ts,fun a=>script_words a,Tryd.call35,fun a v h=>DF_ok rfl En_mixed rfl En_ok Tryd.func35 rfl rfl (by decide) ((script_words_dq a).trans h)⟩
theorem script_same_dq (a:HT (Sh.hss [.st (.tp (.ti .i64) K5605),.st (.tp (.ti .i64) K5605)])):DF En GT noC Tryd.f36.ntmps Tryd.f36.results.toList (bodyOf Tryd.f36) (.seq .leaf (.seq (.reg [(5,{split:=true}),(12,{split:=true}),(19,{split:=true}),(26,{split:=true}),(33,{split:=true}),(42,{split:=true}),(51,{split:=true}),(62,{split:=true}),(71,{split:=true})]) .leaf)) [.st (.tp (.ti .i64) K5605),.st (.tp (.ti .i64) K5605)] (.h .tb) a = script_same a.1 a.2:=by kernel_rfl
noncomputable def script_same_c:PCon En:=⟨36,[.st (.tp (.ti .i64) K5605),.st (.tp (.ti .i64) K5605)],.h .tb,fun a=>script_same a.1 a.2,Tryd.call36,fun a v h=>DF_ok rfl En_mixed rfl En_ok Tryd.func36 rfl rfl (by decide) ((script_same_dq a).trans h)⟩
theorem script_Line_dq (a:HT (Sh.hss [.st (.tp (.ti .i64) K5605)])):DF En GT (cl [script_words_c,script_parse_c,script_same_c] []) Tryd.f22.ntmps Tryd.f22.results.toList (bodyOf Tryd.f22) (.seq .leaf (.seq (.join ⟨[(17,.h .tb)],[7,8,9,10,11,12,13,14,15,16],[],[],[]⟩ (.reg [(4,{split:=true}),(10,{split:=true})]) .leaf) (.seq (.reg [(1,{con:=0})]) (.seq (.seq (.reg [(1,{con:=1})]) (.join ⟨[(32,.h .tb)],[25,26,27,28,29,30,31],[],[],[]⟩ (.reg [(2,{split:=true}),(5,{con:=2}),(7,{split:=true})]) .leaf)) .leaf)))) [.st (.tp (.ti .i64) K5605)] (.tup [.h .ts,.h .tb]) a = script_Line a:=by kernel_rfl
noncomputable def script_Line_c:PCon En:=⟨22,[.st (.tp (.ti .i64) K5605)],.tup [.h .ts,.h .tb],fun a=>script_Line a,Tryd.call22,fun a v h=>DF_ok rfl En_mixed rfl En_ok Tryd.func22 rfl rfl (by decide) ((script_Line_dq a).trans h)⟩
theorem script_Fault_Error_dq (a:HT (Sh.hss [.h (.tq (.tp (.ti .i64) (.te 71)))])):DF En GT (cl [isE_c,itoa_c] []) Tryd.f17.ntmps Tryd.f17.results.toList (bodyOf Tryd.f17) (.seq .leaf (.seq (.join ⟨[(12,.h .tb)],[4,5,6,7,8,9,10,11],[],[],[]⟩ (.reg [(2,{split:=true}),(8,{split:=true})]) .leaf) (.seq .leaf (.join ⟨[(3,.h .ts)],[13,14,15,16,17,18,19,20,21,22,23,24,25,26,27,28,29,30,31,32,33,34,35,36,37,38,39,40,41,42,43,44,45,46,47],[],[],[]⟩ (.blk (.join ⟨[(13,.h .tb)],[14,15,16,17,18,19],[],[],[]⟩ (.reg [(5,{con:=0}),(6,{split:=true})]) (.cond .leaf (.join ⟨[(20,.h .tb)],[21,22,23,24,25,26],[],[],[]⟩ (.reg [(5,{con:=0}),(6,{split:=true})]) (.cond .leaf (.join ⟨[(27,.h .tb)],[28,29,30,31,32,33],[],[],[]⟩ (.reg [(5,{con:=0}),(6,{split:=true})]) (.cond .leaf (.join ⟨[(34,.h .tb)],[35,36,37,38,39,40],[],[],[]⟩ (.reg [(5,{con:=0}),(6,{split:=true})]) (.cond .leaf (.join ⟨[(41,.h .tb)],[42,43,44,45,46,47],[],[],[]⟩ (.reg [(5,{con:=0}),(6,{split:=true})]) .leaf)))))))))) (.seq (.reg [(4,{con:=1})]) .leaf))))) [.h (.tq (.tp (.ti .i64) (.te 71)))] (.h .ts) a = script_Fault_Error a:=by kernel_rfl
noncomputable def script_Fault_Error_c:PCon En:=⟨17,[.h (.tq (.tp (.ti .i64) (.te 71)))],.h .ts,fun a=>script_Fault_Error a,Tryd.call17,fun a v h=>DF_ok rfl En_mixed rfl En_ok Tryd.func17 rfl rfl (by decide) ((script_Fault_Error_dq a).trans h)⟩
theorem orielref12_Digits_dq (a:HT (Sh.hss [.h (.ti .i64)])):DF En GT noC Tryd.f19.ntmps Tryd.f19.results.toList (bodyOf Tryd.f19) (.seq .leaf (.seq .leaf (.seq (.blk (.loop ⟨[(0,.h (.ti .i64)),(3,.h .ts)],[4,5,6,7,8,9,10,11,12,13,14,15],[],[],[]⟩ [(.exit 0,⟨[(0,.h (.ti .i64)),(3,.h .ts)],[4,5,6,7,8,9,10,11,12,13,14,15],[],[],[]⟩)] (.seq (.join ⟨[(5,.h .tb)],[4],[],[],[]⟩ (.reg [(1,{split:=true})]) .leaf) .leaf))) .leaf))) [.h (.ti .i64)] (.h .ts) a = orielref12_Digits a:=by kernel_rfl
noncomputable def orielref12_Digits_c:PCon En:=⟨19,[.h (.ti .i64)],.h .ts,fun a=>orielref12_Digits a,Tryd.call19,fun a v h=>DF_ok rfl En_mixed rfl En_ok Tryd.func19 rfl rfl (by decide) ((orielref12_Digits_dq a).trans h)⟩
theorem orielref34_What_dq (a:HT (Sh.hss [.h (.ti .i64)])):DF En GT noC Tryd.f31.ntmps Tryd.f31.results.toList (bodyOf Tryd.f31) (.seq .leaf (.seq (.reg [(2,{sel:=true})]) .leaf)) [.h (.ti .i64)] (.h .ts) a = orielref34_What a:=by kernel_rfl
noncomputable def orielref34_What_c:PCon En:=⟨31,[.h (.ti .i64)],.h .ts,fun a=>orielref34_What a,Tryd.call31,fun a v h=>DF_ok rfl En_mixed rfl En_ok Tryd.func31 rfl rfl (by decide) ((orielref34_What_dq a).trans h)⟩
theorem oriellaw34_told_dq (a:HT (Sh.hss [.h (.to 35 (.tp (.ti .i64) (.te 71)))])):DF En GT (cl [oriellaw34_fault_c,script_Fault_Error_c,orielref12_Digits_c,orielref34_What_c] [asFa_c]) Tryd.f16.ntmps Tryd.f16.results.toList (bodyOf Tryd.f16) (.seq .leaf (.seq .leaf (.seq (.join ⟨[(13,.h .tb)],[6,7,8,9,10,11,12],[],[(0,0,.h (.tq (.tp (.ti .i64) (.te 71))))],[]⟩ (.reg [(2,{io:=some 0}),(4,{split:=true}),(7,{split:=true})]) .leaf) (.seq (.reg [(1,{con:=0})]) (.seq (.reg [(2,{split:=true}),(4,{con:=1}),(6,{con:=2}),(10,{con:=3})]) .leaf))))) [.h (.to 35 (.tp (.ti .i64) (.te 71)))] (.h .tb) a = oriellaw34_told a:=by kernel_rfl
noncomputable def oriellaw34_told_c:PCon En:=⟨16,[.h (.to 35 (.tp (.ti .i64) (.te 71)))],.h .tb,fun a=>oriellaw34_told a,Tryd.call16,fun a v h=>DF_ok rfl En_mixed rfl En_ok Tryd.func16 rfl rfl (by decide) ((oriellaw34_told_dq a).trans h)⟩
theorem oriellaw34_known_dq (a:HT (Sh.hss [])):DF En GT (cl [script_Parse_c,oriellaw34_fault_c,script_Line_c,oriellaw34_told_c] []) Tryd.f11.ntmps Tryd.f11.results.toList (bodyOf Tryd.f11) (.seq .leaf (.seq (.reg [(0,{con:=0})]) (.seq (.reg [(0,{con:=0})]) (.seq (.reg [(0,{con:=0})]) (.seq (.reg [(1,{con:=1})]) (.seq (.reg [(1,{con:=1})]) (.seq (.reg [(1,{con:=2})]) (.seq (.reg [(2,{split:=true}),(7,{split:=true}),(15,{split:=true}),(19,{split:=true}),(23,{split:=true}),(27,{split:=true}),(31,{split:=true}),(34,{split:=true}),(38,{split:=true}),(40,{con:=3}),(42,{split:=true}),(44,{con:=3})]) .leaf)))))))) [] (.h .tb) a = oriellaw34_known_raw:=by kernel_rfl
noncomputable def oriellaw34_known_c:PCon En:=⟨11,[],.h .tb,fun a=>oriellaw34_known,Tryd.call11,fun a v h=>DF_ok rfl En_mixed rfl En_ok Tryd.func11 rfl rfl (by decide) ((oriellaw34_known_dq a).trans (oriellaw34_known_law  h))⟩
theorem orielref34_plain_dq (a:HT (Sh.hss [.h .tu])):DF En GT noC Tryd.f60.ntmps Tryd.f60.results.toList (bodyOf Tryd.f60) (.seq .leaf (.seq (.reg [(2,{split:=true}),(6,{split:=true}),(10,{split:=true})]) .leaf)) [.h .tu] (.h .tb) a = orielref34_plain a:=by kernel_rfl
noncomputable def orielref34_plain_c:PCon En:=⟨60,[.h .tu],.h .tb,fun a=>orielref34_plain a,Tryd.call60,fun a v h=>DF_ok rfl En_mixed rfl En_ok Tryd.func60 rfl rfl (by decide) ((orielref34_plain_dq a).trans h)⟩
theorem orielref34_hex_dq (a:HT (Sh.hss [.h (.ti .i64)])):DF En GT noC Tryd.f61.ntmps Tryd.f61.results.toList (bodyOf Tryd.f61) (.seq .leaf (.seq (.join ⟨[(4,.h .tb)],[3],[],[],[]⟩ (.reg [(1,{split:=true})]) .leaf) .leaf)) [.h (.ti .i64)] (.h .tu) a = orielref34_hex a:=by kernel_rfl
noncomputable def orielref34_hex_c:PCon En:=⟨61,[.h (.ti .i64)],.h .tu,fun a=>orielref34_hex a,Tryd.call61,fun a v h=>DF_ok rfl En_mixed rfl En_ok Tryd.func61 rfl rfl (by decide) ((orielref34_hex_dq a).trans h)⟩
theorem orielref21_Same_dq (a:HT (Sh.hss [.st K636e,.st K636e])):DF En GT noC Tryd.f53.ntmps Tryd.f53.results.toList (bodyOf Tryd.f53) (.seq .leaf (.seq (.join ⟨[(21,.h .tb)],[8,9,10,11,12,13,14,15,16,17,18,19,20],[],[],[]⟩ (.reg [(5,{split:=true}),(13,{split:=true})]) .leaf) (.seq (.seq .leaf (.blk (.loop ⟨[(5,.h (.ti .i64))],[6,7,22,23,24,25,26,27,28,29,30,31,32,33,34,35,36,37,38,39,40,41,42,43,44,45,46,47,48,49,50,51,52,53,54,55,56,57,58,59,60,61,62,63,64,65,66],[],[],[]⟩ [(.ret,⟨[(4,.k (.bool false))],[5,6,7,22,23,24,25,26,27,28,29,30,31,32,33,34,35,36,37,38,39,40,41,42,43,44,45,46,47,48,49,50,51,52,53,54,55,56,57,58,59,60,61,62,63,64,65,66],[],[],[]⟩),(.exit 0,⟨[],[5,6,7,22,23,24,25,26,27,28,29,30,31,32,33,34,35,36,37,38,39,40,41,42,43,44,45,46,47,48,49,50,51,52,53,54,55,56,57,58,59,60,61,62,63,64,65,66],[],[],[]⟩)] (.seq (.join ⟨[(26,.h .tb)],[22,23,24,25],[],[],[]⟩ (.reg [(4,{split:=true})]) .leaf) (.seq (.blk (.seq .leaf (.seq .leaf (.join ⟨[(66,.h .tb)],[39,40,41,42,43,44,45,46,47,48,49,50,51,52,53,54,55,56,57,58,59,60,61,62,63,64,65],[],[],[]⟩ (.reg [(5,{split:=true}),(12,{split:=true}),(19,{split:=true}),(27,{split:=true})]) .leaf)))) .leaf))))) .leaf))) [.st K636e,.st K636e] (.h .tb) a = orielref21_Same a.1 a.2:=by kernel_rfl
noncomputable def orielref21_Same_c:PCon En:=⟨53,[.st K636e,.st K636e],.h .tb,fun a=>orielref21_Same a.1 a.2,Tryd.call53,fun a v h=>DF_ok rfl En_mixed rfl En_ok Tryd.func53 rfl rfl (by decide) ((orielref21_Same_dq a).trans h)⟩
theorem orielref34_Same_dq (a:HT (Sh.hss [.st (.tp (.ti .i64) K5605),.st (.tp (.ti .i64) K5605)])):DF En GT (cl [orielref21_Same_c] []) Tryd.f29.ntmps Tryd.f29.results.toList (bodyOf Tryd.f29) (.seq .leaf (.seq (.reg [(5,{split:=true}),(12,{split:=true}),(19,{split:=true}),(26,{split:=true}),(33,{split:=true}),(42,{split:=true}),(46,{fz:=[(50,.tp (.ti .i64) K6f24)]}),(50,{fz:=[(54,.tp (.ti .i64) K6f24)]}),(51,{con:=0})]) .leaf)) [.st (.tp (.ti .i64) K5605),.st (.tp (.ti .i64) K5605)] (.h .tb) a = orielref34_Same a.1 a.2:=by kernel_rfl
noncomputable def orielref34_Same_c:PCon En:=⟨29,[.st (.tp (.ti .i64) K5605),.st (.tp (.ti .i64) K5605)],.h .tb,fun a=>orielref34_Same a.1 a.2,Tryd.call29,fun a v h=>DF_ok rfl En_mixed rfl En_ok Tryd.func29 rfl rfl (by decide) ((orielref34_Same_dq a).trans h)⟩
end Go.SH
set_option maxRecDepth 100000
set_option maxHeartbeats 4000000
namespace Go.Proofs.Sp
open Go.RowKit
theorem bSize:(Tryd.prog.info? 84).map (·.size) = some 2:=by kernel_rfl
theorem bLies:liesAt Tryd.prog Tryd.prog.depth 84 (2 / Tryd.prog.cellsOf 84) 0 84 1 = true:=by kernel_rfl
theorem byteInfo:(Tryd.prog.info? 5).map (fun i=>(i.zero,i.size,i.bytes)) = some (some (.int .u8 0),1,1):=by kernel_rfl
theorem check_used (b:Nat) (w:World) (h0:w.cell? ⟨b,0,none⟩ = some (.pointer (some ⟨b,0,none⟩))) :
    Calls Tryd.prog 62 #[.pointer (some ⟨b,0,none⟩)] w fun e w'=>e = .returned (.tuple #[]) ∧ w' = w:=by
  obtain ⟨j,hj,_⟩:=Option.map_eq_some_iff.1 bSize
  go_enter Tryd.func62,Tryd.ntmps62
  go_wp2
  rw [Lib.run_neq_ptr_same w _ Tryd.underlying82 hj]
  go_wp2
  go_end0
  exact ⟨rfl,rfl⟩
theorem check_fresh (b:Nat) (w:World) (h0:w.cell? ⟨b,0,none⟩ = some (.pointer none)) (hsh:w.shape? b = some (84,2)) (hfz:w.frozen? ⟨b,0,none⟩ = false) :
    Calls Tryd.prog 62 #[.pointer (some ⟨b,0,none⟩)] w fun e w'=>e = .returned (.tuple #[]) ∧ w' = w.setCell ⟨b,0,none⟩ (.pointer (some ⟨b,0,none⟩)):=by
  obtain ⟨j,hj,hjs⟩:=Option.map_eq_some_iff.1 bSize
  go_enter Tryd.func62,Tryd.ntmps62
  go_wp2
  rw [Lib.run_to_unsafe w ⟨b,0,none⟩ Tryd.underlying82 Tryd.underlying109 hj (by rw [hjs];decide) hsh (Nat.zero_lt_succ 1)]
  simp only [Result.andThen]
  rw [Oper.upon_value]
  go_wp2
  rw [run_callFunc_extern Tryd.func74 (by kernel_rfl) (by kernel_rfl) (by kernel_rfl) (e:=Extern.AbiNoEscape.same) (by kernel_rfl)]
  rw [Lib.run_noEscape]
  simp only [Result.andThen]
  rw [Oper.upon_value]
  go_wp2
  rw [Lib.run_from_unsafe w ⟨b,0,none⟩ Tryd.underlying109 Tryd.underlying82 hj hsh bLies]
  simp only [Result.andThen]
  rw [Oper.upon_value]
  go_wp2
  go_end0
  exact ⟨rfl,rfl⟩
theorem check_any (B b:Nat) (bs:List Value) (w:World) (h:Lib.IsBuilder 84 5 B b bs w) :
    Calls Tryd.prog 62 #[.pointer (some ⟨b,0,none⟩)] w fun e w'=>e = .returned (.tuple #[]) ∧ (Lib.BuilderAt 84 5 B b (.pointer (some ⟨b,0,none⟩)) bs w' ∧ Below B w w'):=by
  rcases h with h | h
  · refine (check_fresh b w h.cell0 h.shape h.frozen0).mono ?_
    rintro e w' ⟨rfl,rfl⟩
    exact ⟨rfl,h.used _,(Below.refl B w).setCell (p:=⟨b,0,none⟩) h.1 _⟩
  · refine (check_used b w h.cell0).mono ?_
    rintro e w' ⟨rfl,rfl⟩
    exact ⟨rfl,h,Below.refl B _⟩
theorem writeString (B b:Nat) (bs:List Value) (s:ByteArray) (w:World) (h:Lib.IsBuilder 84 5 B b bs w) (hlen:bs.length + s.size ≤ 140737488355328) (hBw:B ≤ w.heap.size) :
    Calls Tryd.prog 40 #[.pointer (some ⟨b,0,none⟩),.string s] w fun e w'=>e = .returned (.tuple #[.int .i64 s.size,.nilIface]) ∧ (Lib.BuilderAt 84 5 B b (.pointer (some ⟨b,0,none⟩)) (bs ++ Lib.strCells s) w' ∧ Below B w w'):=by
  obtain ⟨i0,hi,hz0,hz1,hz2⟩:=info_parts byteInfo
  go_enter Tryd.func40,Tryd.ntmps40
  go_wp2_with (go_at_call 62;refine (check_any B b bs _ h).mono ?_)
  rintro e w1 ⟨rfl,h1,hb1⟩
  obtain ⟨hB,v,hbk,hown,hne⟩:=h1
  have c0:w1.cell? ⟨b,0,none⟩ = some (.pointer (some ⟨b,0,none⟩)):=by rw [Lib.cell_of_heap hbk];rfl
  have c1:w1.cell? ⟨b,1,none⟩ = some v:=by rw [Lib.cell_of_heap hbk];rfl
  go_wp2_with (at_builtin;refine Lib.wpList_append_own_string _ rfl _ _ 50 9 rfl B 5 i0 Tryd.underlying50 Tryd.underlying9 hi hz0 hz1 hz2 _ _ _ rfl hown s rfl ?c3 ?c4 ?c5 ?_)
  case c3=>unfold maxLen;omega
  case c4=>omega
  case c5=>have:=hb1.size;omega
  intro v' w2 hown' hgrow _
  have hlt:b < w1.heap.size:=by
    rcases Nat.lt_or_ge b w1.heap.size with h' | h'
    · exact h'
    · simp [Array.getElem?_eq_none h'] at hbk
  have hb2:w2.heap[b]? = some (.cells #[.pointer (some ⟨b,0,none⟩),v] 84 (0,0)):=by
    rw [hgrow.block b hlt (fun e=>hne e.symm)]
    exact hbk
  have d0:w2.cell? ⟨b,0,none⟩ = some (.pointer (some ⟨b,0,none⟩)):=by rw [Lib.cell_of_heap hb2];rfl
  have d1:w2.cell? ⟨b,1,none⟩ = some v:=by rw [Lib.cell_of_heap hb2];rfl
  have f1:w2.frozen? ⟨b,1,none⟩ = false:=Lib.frozen_of_heap hb2 1
  obtain ⟨ao,n',cap,rfl⟩:∃ ao n' cap,v' = .slice ao n' cap:=by
    rcases hown'.2 with ⟨hv,_⟩ | ⟨g,cap,cur,hv,_⟩
    · exact ⟨_,_,_,hv⟩
    · exact ⟨_,_,_,hv⟩
  go_wp2
  go_ret2
  refine ⟨rfl,?_,?_⟩
  · exact Lib.BuilderAt.put (T:=84) (e:=5) hB hb2 (bs':=bs ++ Lib.strCells s) (by simpa [Lib.strCells_length] using hown') (by decide)
  · exact (hb1.grown hgrow (by have:=hb1.size;omega) (fun k hk=>(hown.lt k hk).1)).setCell (p:=⟨b,1,none⟩) hB _
theorem writeByte (B b:Nat) (bs:List Value) (c:Int) (w:World) (h:Lib.IsBuilder 84 5 B b bs w) (hlen:bs.length + 1 ≤ 140737488355328) (hBw:B ≤ w.heap.size) :
    Calls Tryd.prog 41 #[.pointer (some ⟨b,0,none⟩),.int .u8 c] w fun e w'=>e = .returned .nilIface ∧ (Lib.BuilderAt 84 5 B b (.pointer (some ⟨b,0,none⟩)) (bs ++ [.int .u8 c]) w' ∧ Below B w w'):=by
  obtain ⟨i0,hi,hz0,hz1,hz2⟩:=info_parts byteInfo
  go_enter Tryd.func41,Tryd.ntmps41
  go_wp2_with (go_at_call 62;refine (check_any B b bs _ h).mono ?_)
  rintro e w1 ⟨rfl,h1,hb1⟩
  obtain ⟨hB,v,hbk,hown,hne⟩:=h1
  have c0:w1.cell? ⟨b,0,none⟩ = some (.pointer (some ⟨b,0,none⟩)):=by rw [Lib.cell_of_heap hbk];rfl
  have c1:w1.cell? ⟨b,1,none⟩ = some v:=by rw [Lib.cell_of_heap hbk];rfl
  go_wp2_with (at_builtin;refine wpList_append_own _ rfl _ _ 50 rfl B 5 i0 (.int .u8 0) 1 1 Tryd.underlying50 hi hz0 hz1 hz2 rfl (by decide) _ _ _ rfl (hown.alloc _) ⟨w1.heap.size,0,none⟩ 1 1 [.int .u8 c] rfl rfl ?c1 ?c2 ?c3 ?c4 ?c5 ?_)
  case c1=>
    intro j u hj
    match j,hj with
    | 0,hj=>simp at hj;subst hj;simp [Addr.add]
  case c2=>intro u hu;simp at hu;subst hu;rfl
  case c3=>unfold maxLen;omega
  case c4=>omega
  case c5=>have:=hb1.size;simp;omega
  intro v' w2 hown' hgrow _
  have hlt:b < w1.heap.size:=by
    rcases Nat.lt_or_ge b w1.heap.size with h' | h'
    · exact h'
    · simp [Array.getElem?_eq_none h'] at hbk
  have hb2:w2.heap[b]? = some (.cells #[.pointer (some ⟨b,0,none⟩),v] 84 (0,0)):=by
    rw [hgrow.block b (by simp;omega) (fun e=>hne e.symm),Lib.alloc_old w1 _ b hlt]
    exact hbk
  have d0:w2.cell? ⟨b,0,none⟩ = some (.pointer (some ⟨b,0,none⟩)):=by rw [Lib.cell_of_heap hb2];rfl
  have d1:w2.cell? ⟨b,1,none⟩ = some v:=by rw [Lib.cell_of_heap hb2];rfl
  have f1:w2.frozen? ⟨b,1,none⟩ = false:=Lib.frozen_of_heap hb2 1
  obtain ⟨g,cap,rfl⟩:∃ g cap,v' = .slice (some ⟨g,0,none⟩) (bs.length + 1) cap:=by
    rcases hown'.2 with ⟨_,h0⟩ | ⟨g,cap,cur,hv,_⟩
    · omega
    · exact ⟨g,cap,hv⟩
  go_wp2
  go_ret
  refine ⟨rfl,?_,?_⟩
  · exact Lib.BuilderAt.put (T:=84) (e:=5) hB hb2 (bs':=bs ++ [.int .u8 c]) (by simpa using hown') (by decide)
  · exact ((hb1.alloc (by have:=hb1.size;omega) _).grown hgrow (by have:=hb1.size;simp;omega) (fun k hk=>(hown.lt k hk).1)).setCell (p:=⟨b,1,none⟩) hB _
end Go.Proofs.Sp
namespace Go.Proofs
open Go.Shelf
def Tryd.lays169_ren:Go.Shelf.Ren:=⟨fun | 169=>42 | n=>n,fun | 70=>82 | 9=>9 | 0=>0 | 72=>84 | 37=>50 | 127=>131 | 3=>3 | 5=>5 | n=>n,fun | n=>n⟩
theorem Tryd.lays169:Go.Proofs.Lays.n169 Tryd.prog Tryd.lays169_ren:={
  mixed:=by kernel_rfl
  f169:=Tryd.func42.trans (congrArg some (by kernel_rfl))
  t0:=Tryd.underlying0
  a0:=Tryd.isAgg0
  z0:=Tryd.sizeOf0
  v0:=Tryd.zeroValue0
  t3:=Tryd.underlying3
  a3:=Tryd.isAgg3
  z3:=Tryd.sizeOf3
  v3:=Tryd.zeroValue3
  t9:=Tryd.underlying9
  a9:=Tryd.isAgg9
  z9:=Tryd.sizeOf9
  v9:=Tryd.zeroValue9
  t37:=Tryd.underlying50
  a37:=Tryd.isAgg50
  z37:=Tryd.sizeOf50
  v37:=Tryd.zeroValue50
  t70:=Tryd.underlying82
  a70:=Tryd.isAgg82
  z70:=Tryd.sizeOf82
  v70:=Tryd.zeroValue82
  t72:=Tryd.underlying84
  a72:=Tryd.isAgg84
  z72:=Tryd.sizeOf84
  v72:=Tryd.zeroValue84
  t127:=Tryd.underlying131
  a127:=Tryd.isAgg131
  z127:=Tryd.sizeOf131
  v127:=Tryd.zeroValue131 }
theorem Tryd.Builder_Extra_169:Builder.Extra Tryd.prog Tryd.lays169_ren:={
  sizeBuilder:=by kernel_rfl
  liesBuilder:=by kernel_rfl
  t5:=Tryd.underlying5
  a5:=Tryd.isAgg5
  z5:=Tryd.sizeOf5
  v5:=Tryd.zeroValue5
  infoByte:=by kernel_rfl
  cellsByte:=by kernel_rfl
  sizeByte:=by kernel_rfl
  neB5:=by decide }
open Go.RowKit in
theorem Tryd.Builder_String_any (B b:Nat) (l:List UInt8) (w:World) (h:Lib.IsBuilder 84 5 B b (Lib.byteCells l) w) (hBw:B ≤ w.heap.size) :
    Calls Tryd.prog 42 #[.pointer (some ⟨b,0,none⟩)] w fun e w'=>e = .returned (.string ⟨l.toArray⟩) ∧ Below B w w':=Any.Builder_String_any Tryd.lays169 Tryd.Builder_Extra_169 B b l w h hBw
end Go.Proofs
set_option maxRecDepth 100000
set_option maxHeartbeats 400000
namespace Go.Proofs.Sp
open Go.RowKit
theorem store_new {P:Program} (w:World) (cs:Array Value) (T:TypeId) (k:Nat) (v:Value) (hv:v.oneCell' = true) (hk:k < cs.size) :
    (store ⟨w.heap.size,k,none⟩ v).run P (w.alloc (.cells cs T)) = .ok () (w.alloc (.cells (cs.setIfInBounds k v) T)):=by
  have h1:(w.alloc (.cells cs T)).cell? ⟨w.heap.size,k,none⟩ = some cs[k]:=by
    rw [World.cell?_alloc_at _ _ _ _ rfl];simp [hk]
  have h2:(w.alloc (.cells cs T)).frozen? ⟨w.heap.size,k,none⟩ = false:=World.frozen?_alloc_at _ _ _ _ (by simp)
  rw [run_store P _ _ _ _ hv,h1]
  simp only [h2,Bool.false_eq_true,if_false]
  congr 1
  simp only [World.setCell,World.alloc,Option.isSome_none,Bool.false_eq_true,if_false]
  congr 1
  apply Array.ext
  · simp
  · intro i hi hj
    simp only [Array.getElem_modify]
    by_cases e:w.heap.size = i
    · subst e;simp
    · simp only [e,if_false]
      simp at hi
      rw [Array.getElem_push_lt (by omega),Array.getElem_push_lt (by omega)]
theorem arr10 (c0 c1 c2 c3 c4 c5 c6 c7 c8 c9:Value):(((((((((((#[Value.int IntKind.i64 0,Value.int IntKind.i64 0,Value.int IntKind.i64 0,Value.int IntKind.i64 0,Value.int IntKind.i64 0,Value.int IntKind.i64 0,Value.slice none 0 0,Value.int IntKind.i64 0,Value.int IntKind.i64 0,Value.slice none 0 0]:Array Value).setIfInBounds 0 c0).setIfInBounds 1 c1).setIfInBounds 2 c2).setIfInBounds 3 c3).setIfInBounds 4 c4).setIfInBounds 5 c5).setIfInBounds 6 c6).setIfInBounds 7 c7).setIfInBounds 8 c8).setIfInBounds 9 c9) = #[c0,c1,c2,c3,c4,c5,c6,c7,c8,c9]:=by simp
theorem bat_kept {T e:TypeId} {B b:Nat} {p:Value} {bs:List Value} {w w':World} (h:Lib.BuilderAt T e B b p bs w) (hk:∀ β,β < w.heap.size → w'.heap[β]? = w.heap[β]?):Lib.BuilderAt T e B b p bs w':=by
  obtain ⟨hB,v,hb,hown,hne⟩:=h
  refine ⟨hB,v,(hk b (Array.getElem?_eq_some_iff.1 hb).1).trans hb,⟨hown.1,?_⟩,hne⟩
  rcases hown.2 with h0 | ⟨g,cap,cur,hv,hg,hh,hr⟩
  · exact .inl h0
  · exact .inr ⟨g,cap,cur,hv,hg,(hk g (Array.getElem?_eq_some_iff.1 hh).1).trans hh,hr⟩
theorem isb_kept {T e:TypeId} {B b:Nat} {bs:List Value} {w w':World} (h:Lib.IsBuilder T e B b bs w) (hk:∀ β,β < w.heap.size → w'.heap[β]? = w.heap[β]?):Lib.IsBuilder T e B b bs w':=
  h.elim (fun h=>.inl (bat_kept h hk)) fun h=>.inr (bat_kept h hk)
theorem alloc_kept (w:World) (o:Obj):∀ β,β < w.heap.size → (w.alloc o).heap[β]? = w.heap[β]?:=fun β h=>Lib.alloc_old w o β h
structure Box (p:Prop):Prop where
  out:p
/-- What it computes, told the lines. -/
def goP (L:Nat → Option (List UInt8 × Bool)):Nat → Nat → List UInt8 → Option (List UInt8 × Int)
  | 0,i,acc=>some (acc,i)
  | k + 1,i,acc=>match L i with
    | none=>none
    | some (s,ok)=>if ok = false ∨ 1000 ≤ i then some ([],i) else if s.length ≤ 8000 then goP L k (i + 1) (acc ++ s ++ [10]) else none
noncomputable def pBody:Code:=match (Tryd.f24.body.getD .skip) with | .seq _ (.seq _ (.seq (.seq _ (.block _ (.loop c))) _))=>c | _=>.skip
theorem strCells_eq (s:List UInt8):Lib.strCells ⟨⟨s⟩⟩ = Lib.byteCells s:=by
  simp [Lib.strCells,Lib.byteCells]
structure EvC where
  (c0 c1 c2 c3 c4 c5 c6 c7 c8 c9:Value)
def EvC.arr (e:EvC):Array Value:=#[e.c0,e.c1,e.c2,e.c3,e.c4,e.c5,e.c6,e.c7,e.c8,e.c9]
theorem print_rounds {w0:World} {L:Nat → Option (List UInt8 × Bool)} {bl off n cap:Nat} {va:Option Addr} {b:Nat} {Q:Exit → Act → World → Prop} {x:List UInt8} {m:Int}
    (hva:0 < n → va = some ⟨bl,off,none⟩) (hcap:n ≤ cap)
    (hev:∀ i,i < n → ∃ e:EvC,(∀ w,Below w0.heap.size w0 w → ∀ j v,e.arr[j]? = some v → w.cell? ⟨bl,off + i * 10 + j,none⟩ = some v ∧ v.oneCell' = true) ∧
      ∀ s ok,L i = some (s,ok) → ∀ w,Below w0.heap.size w0 w → Calls Tryd.prog 22 #[.agg e.arr] w fun e w'=>e = .returned (.tuple #[.string ⟨⟨s⟩⟩,.bool ok]) ∧ Below w.heap.size w w')
    (hx:∀ (v5 v6 v7 v8 v12 v13 v14 v15 v16 v17 v18 v19 v20 v21 v22 v23 v24 v25 v26 v27 v28 v29 v30 v31 v32 v33 v34 v1:Value) (acc:List UInt8) (w:World),Lib.IsBuilder 84 5 w0.heap.size b (Lib.byteCells acc) w → Below w0.heap.size w0 w → x = acc → m = n →
      Q (.exit 0) { tmps:=#[.slice va n cap,v1,.string ⟨#[]⟩,.int .i64 0,.pointer (some ⟨b,0,none⟩),v5,v6,v7,v8,.slice va n cap,.int .i64 n,.int .i64 n,v12,v13,v14,v15,v16,v17,v18,v19,v20,v21,v22,v23,v24,v25,v26,v27,v28,v29,v30,v31,v32,v33,v34],defers:=[] } w)
    (hr:∀ (a:Act) (w:World),a.tmps[2]? = some (.string ⟨⟨x⟩⟩) → a.tmps[3]? = some (.int .i64 m) → a.defers = [] → Below w0.heap.size w0 w → Q .ret a w) :
    ∀ (k i:Nat) (acc:List UInt8) (v5 v6 v7 v8 v12 v13 v14 v15 v16 v17 v18 v19 v20 v21 v22 v23 v24 v25 v26 v27 v28 v29 v30 v31 v32 v33 v34 v1:Value) (w:World),i + k = n → goP L k i acc = some (x,m) →
      Lib.IsBuilder 84 5 w0.heap.size b (Lib.byteCells acc) w → Below w0.heap.size w0 w → acc.length ≤ i * 8001 → i ≤ 1000 →
      Code.rounds Tryd.prog pBody Q (k + 1) { tmps:=#[.slice va n cap,v1,.string ⟨#[]⟩,.int .i64 0,.pointer (some ⟨b,0,none⟩),v5,v6,v7,v8,.slice va n cap,.int .i64 n,.int .i64 i,v12,v13,v14,v15,v16,v17,v18,v19,v20,v21,v22,v23,v24,v25,v26,v27,v28,v29,v30,v31,v32,v33,v34],defers:=[] } w:=by
  intro k
  induction k with
  | zero=>
    intro i acc v5 v6 v7 v8 v12 v13 v14 v15 v16 v17 v18 v19 v20 v21 v22 v23 v24 v25 v26 v27 v28 v29 v30 v31 v32 v33 v34 v1 w hik hg hb hbel hlen hi
    obtain rfl:i = n:=by omega
    simp only [goP,Option.some.injEq,Prod.mk.injEq] at hg
    obtain ⟨rfl,rfl⟩:=hg
    rw [rounds_succ]
    simp only [pBody,Tryd.f24,Option.getD]
    go_wp2
    exact hx _ _ _ _ _ _ _ _ _ _ _ _ _ _ _ _ _ _ _ _ _ _ _ _ _ _ _ _ acc w hb hbel rfl trivial
  | succ k ih=>
    intro i acc v5 v6 v7 v8 v12 v13 v14 v15 v16 v17 v18 v19 v20 v21 v22 v23 v24 v25 v26 v27 v28 v29 v30 v31 v32 v33 v34 v1 w hik hg hb hbel hlen hi
    have hin:i < n:=by omega
    obtain rfl:=hva (by omega)
    obtain ⟨⟨c0,c1,c2,c3,c4,c5,c6,c7,c8,c9⟩,hc,hl⟩:=hev i hin
    simp only [EvC.arr] at hc hl
    obtain ⟨q0,o0⟩:=hc w hbel 0 _ rfl
    obtain ⟨q1,o1⟩:=hc w hbel 1 _ rfl
    obtain ⟨q2,o2⟩:=hc w hbel 2 _ rfl
    obtain ⟨q3,o3⟩:=hc w hbel 3 _ rfl
    obtain ⟨q4,o4⟩:=hc w hbel 4 _ rfl
    obtain ⟨q5,o5⟩:=hc w hbel 5 _ rfl
    obtain ⟨q6,o6⟩:=hc w hbel 6 _ rfl
    obtain ⟨q7,o7⟩:=hc w hbel 7 _ rfl
    obtain ⟨q8,o8⟩:=hc w hbel 8 _ rfl
    obtain ⟨q9,o9⟩:=hc w hbel 9 _ rfl
    simp only [Nat.add_zero] at q0
    simp only [goP] at hg
    cases hL:L i with
    | none=>simp [hL] at hg
    | some p=>
    obtain ⟨s,ok⟩:=p
    simp only [hL] at hg
    have hlt:((i:Int) < n):=by omega
    have hcalls:=Box.mk (hl s ok hL)
    clear hl hc
    replace hx:=Box.mk hx
    replace hr:=Box.mk hr
    replace ih:=Box.mk ih
    clear hev
    replace hg:=Box.mk hg
    rw [rounds_succ]
    simp only [pBody,Tryd.f24,Option.getD]
    go_wp2
    rw [store_new w _ 54 0 c0 o0 (by simp)]
    simp only [Result.andThen]
    rw [store_new w _ 54 1 c1 o1 (by simp)]
    simp only [Result.andThen]
    rw [store_new w _ 54 2 c2 o2 (by simp)]
    simp only [Result.andThen]
    rw [store_new w _ 54 3 c3 o3 (by simp)]
    simp only [Result.andThen]
    rw [store_new w _ 54 4 c4 o4 (by simp)]
    simp only [Result.andThen]
    rw [store_new w _ 54 5 c5 o5 (by simp)]
    simp only [Result.andThen]
    rw [store_new w _ 54 6 c6 o6 (by simp)]
    simp only [Result.andThen]
    rw [store_new w _ 54 7 c7 o7 (by simp)]
    simp only [Result.andThen]
    rw [store_new w _ 54 8 c8 o8 (by simp)]
    simp only [Result.andThen]
    rw [store_new w _ 54 9 c9 o9 (by simp)]
    simp only [Result.andThen]
    rw [arr10]
    have bel1:Below w0.heap.size w0 (w.alloc (.cells #[c0,c1,c2,c3,c4,c5,c6,c7,c8,c9] 54)):=hbel.alloc (by have:=hbel.size;omega) _
    have bb1:Lib.IsBuilder 84 5 w0.heap.size b (Lib.byteCells acc) (w.alloc (.cells #[c0,c1,c2,c3,c4,c5,c6,c7,c8,c9] 54)):=isb_kept hb (alloc_kept _ _)
    have d0:(w.alloc (.cells #[c0,c1,c2,c3,c4,c5,c6,c7,c8,c9] 54)).cell? ⟨w.heap.size,0,none⟩ = some c0:=by rw [World.cell?_alloc_at _ _ _ _ rfl];rfl
    have d1:(w.alloc (.cells #[c0,c1,c2,c3,c4,c5,c6,c7,c8,c9] 54)).cell? ⟨w.heap.size,1,none⟩ = some c1:=by rw [World.cell?_alloc_at _ _ _ _ rfl];rfl
    have d2:(w.alloc (.cells #[c0,c1,c2,c3,c4,c5,c6,c7,c8,c9] 54)).cell? ⟨w.heap.size,2,none⟩ = some c2:=by rw [World.cell?_alloc_at _ _ _ _ rfl];rfl
    have d3:(w.alloc (.cells #[c0,c1,c2,c3,c4,c5,c6,c7,c8,c9] 54)).cell? ⟨w.heap.size,3,none⟩ = some c3:=by rw [World.cell?_alloc_at _ _ _ _ rfl];rfl
    have d4:(w.alloc (.cells #[c0,c1,c2,c3,c4,c5,c6,c7,c8,c9] 54)).cell? ⟨w.heap.size,4,none⟩ = some c4:=by rw [World.cell?_alloc_at _ _ _ _ rfl];rfl
    have d5:(w.alloc (.cells #[c0,c1,c2,c3,c4,c5,c6,c7,c8,c9] 54)).cell? ⟨w.heap.size,5,none⟩ = some c5:=by rw [World.cell?_alloc_at _ _ _ _ rfl];rfl
    have d6:(w.alloc (.cells #[c0,c1,c2,c3,c4,c5,c6,c7,c8,c9] 54)).cell? ⟨w.heap.size,6,none⟩ = some c6:=by rw [World.cell?_alloc_at _ _ _ _ rfl];rfl
    have d7:(w.alloc (.cells #[c0,c1,c2,c3,c4,c5,c6,c7,c8,c9] 54)).cell? ⟨w.heap.size,7,none⟩ = some c7:=by rw [World.cell?_alloc_at _ _ _ _ rfl];rfl
    have d8:(w.alloc (.cells #[c0,c1,c2,c3,c4,c5,c6,c7,c8,c9] 54)).cell? ⟨w.heap.size,8,none⟩ = some c8:=by rw [World.cell?_alloc_at _ _ _ _ rfl];rfl
    have d9:(w.alloc (.cells #[c0,c1,c2,c3,c4,c5,c6,c7,c8,c9] 54)).cell? ⟨w.heap.size,9,none⟩ = some c9:=by rw [World.cell?_alloc_at _ _ _ _ rfl];rfl
    replace hb:=Box.mk hb
    replace hbel:=Box.mk hbel
    generalize hW:w.alloc (.cells #[c0,c1,c2,c3,c4,c5,c6,c7,c8,c9] 54) = W at *
    rw [Oper.upon_skip]
    go_wp2_with (go_at_call 22;refine (hcalls.out W bel1).mono ?_)
    rintro _ w1 ⟨rfl,bel2⟩
    have bel3:Below w0.heap.size w0 w1:=bel1.trans ⟨bel2.os,bel2.tape,bel2.output,bel2.size,fun k hk=>bel2.block k (Nat.lt_of_lt_of_le hk bel1.size)⟩
    have bb2:Lib.IsBuilder 84 5 w0.heap.size b (Lib.byteCells acc) w1:=isb_kept bb1 fun β h=>bel2.block β h
    clear q0 q1 q2 q3 q4 q5 q6 q7 q8 q9 o0 o1 o2 o3 o4 o5 o6 o7 o8 o9 d0 d1 d2 d3 d4 d5 d6 d7 d8 d9
    replace bel3:=Box.mk bel3
    cases ok with
    | false=>
      have hg:=hg.out
      simp at hg
      obtain ⟨rfl,rfl⟩:=hg
      go_wp2
      exact hr.out _ _ rfl rfl rfl bel3.out
    | true=>
      by_cases h1000:1000 ≤ i
      · have h1000':(1000:Int) ≤ i:=by omega
        have hg:=hg.out
        simp [h1000] at hg
        obtain ⟨rfl,rfl⟩:=hg
        go_wp2
        exact hr.out _ _ rfl rfl rfl bel3.out
      · have h1000':(i:Int) < 1000:=by omega
        have hg:=hg.out
        simp only [h1000,or_false,Bool.true_eq_false,if_false] at hg
        split at hg
        rotate_left
        · cases hg
        rename_i hlen8
        have hl1:(Lib.byteCells acc).length + (⟨⟨s⟩⟩:ByteArray).size ≤ 140737488355328:=by
          rw [Lib.byteCells_length]
          show acc.length + s.length ≤ _
          omega
        replace hg:=Box.mk hg
        go_wp2_with (go_at_call 40;refine (writeString w0.heap.size b _ ⟨⟨s⟩⟩ _ bb2 hl1 bel3.out.size).mono ?_)
        rintro _ w2 ⟨rfl,bb3,bel4⟩
        have hl2:(Lib.byteCells acc ++ Lib.strCells ⟨⟨s⟩⟩).length + 1 ≤ 140737488355328:=by
          rw [List.length_append,Lib.byteCells_length,Lib.strCells_length]
          show acc.length + s.length + 1 ≤ _
          omega
        have bel5:=Box.mk (bel3.out.trans bel4)
        go_wp2_with (go_at_call 41;refine (writeByte w0.heap.size b _ 10 _ (.inr bb3) hl2 bel5.out.size).mono ?_)
        rintro _ w3 ⟨rfl,bb4,bel6⟩
        have bel7:=Box.mk (bel5.out.trans bel6)
        go_wp2
        have hg:=hg.out
        have hi1:i + 1 ≤ 1000:=by omega
        rw [show ((i:Int) + 1) = ((i + 1:Nat):Int) from rfl]
        refine ih.out (i + 1) (acc ++ s ++ [10]) _ _ _ _ _ _ _ _ _ _ _ _ _ _ _ _ _ _ _ _ _ _ _ _ _ _ _ _ w3 (by omega) hg ?_ bel7.out (by simp only [List.length_append,List.length_singleton];omega) hi1
        have e:Lib.byteCells (acc ++ s ++ [10]) = Lib.byteCells acc ++ Lib.strCells ⟨⟨s⟩⟩ ++ [.int .u8 10]:=by rw [strCells_eq];simp [Lib.byteCells]
        rw [e];exact .inr bb4
/-- script.Print: what it answers. -/
theorem print_calls {w0:World} {L:Nat → Option (List UInt8 × Bool)} {bl off n cap:Nat} {va:Option Addr} {x:List UInt8} {m:Int}
    (hva:0 < n → va = some ⟨bl,off,none⟩) (hcap:n ≤ cap)
    (hev:∀ i,i < n → ∃ e:EvC,(∀ w,Below w0.heap.size w0 w → ∀ j v,e.arr[j]? = some v → w.cell? ⟨bl,off + i * 10 + j,none⟩ = some v ∧ v.oneCell' = true) ∧
      ∀ s ok,L i = some (s,ok) → ∀ w,Below w0.heap.size w0 w → Calls Tryd.prog 22 #[.agg e.arr] w fun e w'=>e = .returned (.tuple #[.string ⟨⟨s⟩⟩,.bool ok]) ∧ Below w.heap.size w w')
    (hg:goP L n 0 [] = some (x,m)) :
    Calls Tryd.prog 24 #[.slice va n cap] w0 fun e w'=>e = .returned (.tuple #[.string ⟨⟨x⟩⟩,.int .i64 m]) ∧ Below w0.heap.size w0 w':=by
  replace hev:=Box.mk hev
  replace hg:=Box.mk hg
  replace hva:=Box.mk hva
  go_enter Tryd.func24,Tryd.ntmps24
  go_wp2
  refine wp_loop_rounds (n + 1) ?_
  have hb0:Lib.IsBuilder 84 5 w0.heap.size w0.heap.size (Lib.byteCells []) (w0.alloc (.cells #[.pointer none,.slice none 0 0] 84)):=Lib.fresh_isBuilder 84 5 w0
  have hbel0:Below w0.heap.size w0 (w0.alloc (.cells #[.pointer none,.slice none 0 0] 84)):=(Below.refl _ _).alloc (Nat.le_refl _) _
  refine print_rounds (w0:=w0) (L:=L) (bl:=bl) (off:=off) (n:=n) (cap:=cap) (va:=va) (b:=w0.heap.size) (x:=x) (m:=m) hva.out hcap hev.out ?_ ?_ n 0 [] _ _ _ _ _ _ _ _ _ _ _ _ _ _ _ _ _ _ _ _ _ _ _ _ _ _ _ _ _ (by omega) hg.out hb0 hbel0 (by simp) (by omega)
  · intro v5 v6 v7 v8 v12 v13 v14 v15 v16 v17 v18 v19 v20 v21 v22 v23 v24 v25 v26 v27 v28 v29 v30 v31 v32 v33 v34 v1 acc w hb hbel hxa hm
    subst hxa;subst hm
    clear hev hg hva hb0 hbel0
    show Exit.inBlock 0 _ (.exit 0) _ _
    simp only [Exit.inBlock]
    go_wp2_with (go_at_call 42;refine (Tryd.Builder_String_any w0.heap.size w0.heap.size x w hb hbel.size).mono ?_)
    rintro _ w2 ⟨rfl,bel2⟩
    go_wp2
    go_ret2
    exact ⟨rfl,hbel.trans bel2⟩
  · intro a w h2 h3 hd hbel
    clear hev hg hva hb0 hbel0
    simp only [Exit.inBlock,Exit.then]
    refine bodyPost_ret (results_tmp2 rfl a.tmps _ _) hd ⟨?_,hbel⟩
    simp [Array.getD_eq_getD_getElem?,h2,h3]
end Go.Proofs.Sp
namespace Go.SH
open Go.RowKit
/-- Arguments that nobody writes. -/
def av0:Nat → Prop:=avo (fun _=>False) sig0 []
theorem av0_no (β:Nat):¬ av0 β:=by
  rintro (h | h)
  · exact h
  · exact avz h
/-- A law's run: it answers true, and what was there stays. -/
theorem law_calls {E:Env} {f:FuncId} {args:List PV} (h:Pure E f args (.bool true)) (w:World) (cargs:Array Value) (hl:cargs.size = args.length)
    (hv:∀ (i:Nat) (x:PV) (u:Value),args[i]? = some x → cargs[i]? = some u → VR w sig0 av0 x u)
    (hg:∀ g cells,lget E.G g = some cells → VR w sig0 av0 (.rop cells 0) (.pointer (some ⟨g,0,none⟩))) :
    Calls E.P f cargs w fun e w'=>e = .returned (.bool true) ∧ Below w.heap.size w w':=by
  have:=h (fun _=>False) w sig0 cargs.toList (by simpa using hl) (fun i x u hx hu=>hv i x u hx (by simpa using hu)) (BR0 fun _ h=>h.elim) hg
  refine this.mono ?_
  rintro e w' ⟨r,c,L',σ',rfl,⟨rfl,rfl⟩,hvr,_,hgr⟩
  cases hvr
  refine ⟨rfl,hgr.out.1,hgr.out.2.2,hgr.out.2.1,hgr.size,fun k hk=>(hgr.keep k hk avz).2⟩
inductive VRs (w:World) (σ:Sig) (av:Nat → Prop):List PV → List Value → Prop where
  | nil:VRs w σ av [] []
  | cons {x:PV} {v:Value} {xs:List PV} {vs:List Value} (h:VR w σ av x v) (r:VRs w σ av xs vs):VRs w σ av (x :: xs) (v :: vs)
theorem VRs.get {w:World} {σ:Sig} {av:Nat → Prop} {xs:List PV} {cs:List Value} (h:VRs w σ av xs cs):xs.length = cs.length ∧ ∀ (i:Nat) (x:PV) (v:Value),xs[i]? = some x → cs[i]? = some v → VR w σ av x v:=by
  induction h with
  | nil=>simp
  | cons h _ ih=>
    refine ⟨by simp [ih.1],fun i x v hx hv=>?_⟩
    cases i with
    | zero=>simp at hx hv;subst hx;subst hv;exact h
    | succ i=>exact ih.2 i x v (by simpa using hx) (by simpa using hv)
/-- A law's run, its arguments one by one. -/
theorem law_calls' {E:Env} {f:FuncId} {args:List PV} (h:Pure E f args (.bool true)) (w:World) (cargs:List Value) (hv:VRs w sig0 av0 args cargs)
    (hg:∀ g cells,lget E.G g = some cells → VR w sig0 av0 (.rop cells 0) (.pointer (some ⟨g,0,none⟩))) :
    Calls E.P f cargs.toArray w fun e w'=>e = .returned (.bool true) ∧ Below w.heap.size w w':=
  law_calls h w cargs.toArray (by simpa using hv.get.1.symm) (fun i x u hx hu=>hv.get.2 i x u hx (by simpa using hu)) hg
end Go.SH
set_option maxRecDepth 100000
namespace Go.SH
open Go.Proofs Go.RowKit
noncomputable def script_Print (l:List EvT):Option (List UInt8 × Int):=Go.Proofs.Sp.goP (fun i=>(l[i]?).bind script_Line) l.length 0 []
variable [Sent34]
abbrev KEv0:ET:=.tp (.ti .i64) K5605
theorem VR.to0 {w w':World} {σ:Sig} {av:Nat → Prop} {x:PV} {v:Value} (h:VR w σ av x v) (hp:pureV x = true) (hs:w.heap.size ≤ w'.heap.size) (hh:∀ β,β < w.heap.size → w'.heap[β]? = w.heap[β]?):VR w' sig0 av0 x v:=
  VR.mono (h.pure (σ1:=sig0) (av1:=av0) hp fun β _=>av0_no β) (fun _ _ h=>h) hs (fun β hb _=>⟨av0_no β,hh β hb⟩) fun _ _ _ h=>h.elim
theorem line_calls {e:EvT} {s:List UInt8} {ok:Bool} (h:script_Line e = some (s,ok)) {w:World} {cs:Array Value} (hv:VR w sig0 av0 (.agg ((el KEv0).pv e)) (.agg cs))
    (hg:∀ g cells,lget En.G g = some cells → VR w sig0 av0 (.rop cells 0) (.pointer (some ⟨g,0,none⟩))) :
    Calls Tryd.prog 22 #[.agg cs] w fun e w'=>e = .returned (.tuple #[.string ⟨⟨s⟩⟩,.bool ok]) ∧ Below w.heap.size w w':=by
  have:=script_Line_c.ok e (s,ok) h (fun _=>False) w sig0 [.agg cs] rfl (fun i x u hx hu=>by
    cases i with
    | zero=>simp at hu;subst hu;cases hx;exact hv
    | succ i=>simp at hu) (BR0 fun _ h=>h.elim) hg
  refine this.mono ?_
  rintro _ w' ⟨r,c,L',σ',rfl,⟨rfl,rfl⟩,hvr,_,hgr⟩
  refine ⟨?_,hgr.out.1,hgr.out.2.2,hgr.out.2.1,hgr.size,fun k hk=>(hgr.keep k hk avz).2⟩
  have hvr':VR w' σ' (avo (fun _=>False) σ' []) (.tup [.str s,.bool ok]) c:=hvr
  cases hvr' with
  | tup cs hl hv=>
    obtain ⟨x,y,rfl⟩:=cells2 (l:=cs) (by rw [← hl];rfl)
    have h0:=hv 0 _ x rfl rfl
    have h1:=hv 1 _ y rfl rfl
    cases h0;cases h1
    rfl
theorem VR.ro_inv {w:World} {σ:Sig} {av:Nat → Prop} {cells:List PV} {n:Nat} {u:Value} (h:VR w σ av (.ro cells n none) u):(cells = [] ∧ n = 0 ∧ ∃ a cap,u = .slice a 0 cap) ∨
    ∃ β add cap cs,u = .slice (some ⟨β,add,none⟩) n cap ∧ Imm w av β add cs ∧ cells.length = cs.length ∧ (∀ (i:Nat) (x:PV) (v:Value),cells[i]? = some x → cs[i]? = some v → VR w σ av x v) ∧ n ≤ cap:=by
  cases h with
  | roE a cap hc=>exact .inl ⟨rfl,rfl,a,cap,rfl⟩
  | ro cs him hl hv hn hc=>exact .inr ⟨_,_,_,cs,rfl,him,hl,hv,hn⟩
theorem ten {α:Type} {l:List α} (h:l.length = 10):∃ a0 a1 a2 a3 a4 a5 a6 a7 a8 a9,l = [a0,a1,a2,a3,a4,a5,a6,a7,a8,a9]:=by
  match l,h with
  | [a0,a1,a2,a3,a4,a5,a6,a7,a8,a9],_=>exact ⟨_,_,_,_,_,_,_,_,_,_,rfl⟩
theorem print_pure {l:List EvT} {x:List UInt8} {m:Int} (h:script_Print l = some (x,m)):Pure En 24 [.ro (fl (el KEv0) l) l.length none] (.tup [.str x,.int .i64 m]):=by
  refine Pure.of_calls fun A w σ cargs hl hv hg=>?_
  obtain ⟨u,rfl⟩:∃ u,cargs = [u]:=by match cargs,hl with | [u],_=>exact ⟨u,rfl⟩
  have hu:=hv 0 _ u rfl rfl
  have hgs:∀ w',Below w.heap.size w w' → ∀ g cells,lget En.G g = some cells → VR w' sig0 av0 (.rop cells 0) (.pointer (some ⟨g,0,none⟩)):=fun w' hb g cells hc=>
    (hg g cells hc).to0 (by simp [pureV,within,En_ok g cells hc]) hb.size fun β hβ=>hb.block β hβ
  have fin:∀ {e:Ending} {w':World},e = .returned (.tuple #[.string ⟨⟨x⟩⟩,.int .i64 m]) ∧ Below w.heap.size w w' →
      ∃ c,e = .returned c ∧ VR w' sig0 (avo A sig0 []) (.tup [.str x,.int .i64 m]) c ∧ w.heap.size ≤ w'.heap.size ∧ (∀ β,β < w.heap.size → w'.heap[β]? = w.heap[β]?) ∧ (w'.os = w.os ∧ w'.output = w.output ∧ w'.tape = w.tape):=by
    rintro e w' ⟨rfl,hb⟩
    refine ⟨_,rfl,?_,hb.size,fun β hβ=>hb.block β hβ,hb.os,hb.output,hb.tape⟩
    refine .tup [.string ⟨⟨x⟩⟩,.int .i64 m] rfl fun i y v hy hv=>?_
    match i,hy,hv with
    | 0,hy,hv=>simp at hy hv;subst hy;subst hv;exact .str _
    | 1,hy,hv=>simp at hy hv;subst hy;subst hv;exact .int _ _
  rcases hu.ro_inv with ⟨h1,h2,a,cap,rfl⟩ | ⟨β,add,cap,cs,rfl,him,hlc,hcv,hn⟩
  · obtain rfl:l = []:=List.eq_nil_of_length_eq_zero h2
    exact (Go.Proofs.Sp.print_calls (w0:=w) (bl:=0) (off:=0) (n:=0) (cap:=cap) (va:=a) (fun h=>absurd h (by omega)) (by omega) (fun i hi=>absurd hi (by omega)) h).mono fun e w' h=>fin h
  · refine (Go.Proofs.Sp.print_calls (w0:=w) (bl:=β) (off:=add) (n:=l.length) (cap:=cap) (va:=some ⟨β,add,none⟩) (fun _=>rfl) hn (fun i hi=>?_) h).mono fun e w' h=>fin h
    have hle:l[i]? = some l[i]:=List.getElem?_eq_getElem hi
    have hlen:cs.length = l.length * 10:=by rw [← hlc,fl_length];rfl
    obtain ⟨c0,c1,c2,c3,c4,c5,c6,c7,c8,c9,hcs⟩:=ten (l:=(cs.drop (i * 10)).take 10) (by rw [List.length_take,List.length_drop];omega)
    have hat:∀ j,j < 10 → cs[i * 10 + j]? = [c0,c1,c2,c3,c4,c5,c6,c7,c8,c9][j]?:=fun j hj=>by
      rw [← hcs,List.getElem?_take,if_pos hj,List.getElem?_drop]
    have hj10:∀ {j:Nat} {v:Value},[c0,c1,c2,c3,c4,c5,c6,c7,c8,c9][j]? = some v → j < 10:=fun h=>(List.getElem?_eq_some_iff.1 h).1
    have hvr:∀ (j:Nat) (y:PV) (v:Value),((el KEv0).pv l[i])[j]? = some y → [c0,c1,c2,c3,c4,c5,c6,c7,c8,c9][j]? = some v → VR w σ (avo A σ []) y v:=fun j y v hy hv'=>by
      have hj:=hj10 hv'
      refine hcv (i * 10 + j) y v ?_ ((hat j hj).trans hv')
      rw [show i * 10 + j = i * (el KEv0).sz + j from rfl,fl_get hle hj];exact hy
    refine ⟨⟨c0,c1,c2,c3,c4,c5,c6,c7,c8,c9⟩,fun w' hb j v hjv=>?_,fun s ok hs w' hb=>?_⟩
    · have hjv':[c0,c1,c2,c3,c4,c5,c6,c7,c8,c9][j]? = some v:=by simpa [Go.Proofs.Sp.EvC.arr] using hjv
      have hj:=hj10 hjv'
      constructor
      · have:=him.cell (i * 10 + j) v ((hat j hj).trans hjv')
        rw [Nat.add_assoc]
        simpa [World.cell?,hb.block β him.lt] using this
      · have hel:((el KEv0).pv l[i])[j]? = some (((el KEv0).pv l[i])[j]'(by rw [(el KEv0).hsz];exact hj)):=List.getElem?_eq_getElem _
        have hone:=(el KEv0).hone l[i]
        exact one_ok (hvr j _ v hel hjv') (List.all_eq_true.1 hone _ (List.getElem_mem _))
    · have hs':script_Line l[i] = some (s,ok):=by simpa [hle] using hs
      refine line_calls hs' ?_ (hgs w' hb)
      have:=VR.agg (w:=w) (σ:=σ) (av:=avo A σ []) (cells:=(el KEv0).pv l[i]) [c0,c1,c2,c3,c4,c5,c6,c7,c8,c9] (by rw [(el KEv0).hsz];rfl) hvr
      exact this.to0 (el_noF KEv0 rfl l[i]) hb.size fun β hβ=>hb.block β hβ
noncomputable def script_Print_c:PCon En:=⟨24,[.h (.tl KEv0)],.tup [.h .ts,.h (.ti .i64)],fun a=>script_Print a,Tryd.call24,fun a v h=>print_pure h⟩
end Go.SH
set_option maxRecDepth 100000
namespace Go.SH
noncomputable def orielref34_Quoted_loop1 (a0:List UInt8) (x23:Int × List UInt8):Option (((List UInt8)) ⊕ (Int × List UInt8)):=(bif decide (x23.1 < (a0.length:Int)) then some true else some false:Option (Bool)).bind fun x24=>bif x24 then (((getI a0 x23.1).bind fun x37=>(orielref34_plain x37).bind fun x38=>bif x38 then some true else some false:Option (Bool)).bind fun x39=>bif x39 then (getI a0 x23.1).bind fun x40=>req (x23.2.length = x23.2.length) <| req ((x23.2 ++ [x40]).length * 1 ≤ maxBy) <| req ((x23.2 ++ [x40]).length = (x23.2 ++ [x40]).length) (some (x23.2 ++ [x40])) else (getI a0 x23.1).bind fun x41=>(orielref34_hex (IntKind.i64.wrap (Int.tdiv (IntKind.i64.wrap (x41.toNat:Int)) 16))).bind fun x42=>(getI a0 x23.1).bind fun x43=>(orielref34_hex (Int.tmod (IntKind.i64.wrap (x43.toNat:Int)) 16)).bind fun x44=>req (x23.2.length = x23.2.length) <| req ((x23.2 ++ [92,x42,x44]).length * 1 ≤ maxBy) <| req ((x23.2 ++ [92,x42,x44]).length = (x23.2 ++ [92,x42,x44]).length) (some (x23.2 ++ [92,x42,x44])):Option (List UInt8)).bind fun x45=>req (x45.length = x45.length) (some (.inr (IntKind.i64.wrap (x23.1 + 1),x45))) else req (x23.2.length = x23.2.length) (some (.inl x23.2))
noncomputable def orielref34_Quoted (a0:List UInt8):Option (List UInt8):=(loopO (orielref34_Quoted_loop1 a0) (0,[34])).bind fun x46=>req (x46.length = x46.length) <| req ((x46 ++ [34]).length * 1 ≤ maxBy) <| req ((x46 ++ [34]).length = (x46 ++ [34]).length) <| some (x46 ++ [34])
noncomputable def orielref21_Deed (a0:Int × K6f24.T):Option (Bool):=(bif a0.1 == 2 then some true else some false:Option (Bool)).bind fun x1=>bif x1 then bif decide (a0.2.2.1 ≥ 1) then bif decide (a0.2.2.1 ≤ 1000) then bif decide (a0.2.2.2 ≥ 1) then bif decide (a0.2.2.2 ≤ 1000) then some ((a0.2.1.length:Int) == 0) else some false else some false else some false else some false else (bif a0.2.2.1 != 0 then some true else bif a0.2.2.2 != 0 then some true else some false:Option (Bool)).bind fun x2=>bif x2 then some false else (bif a0.1 == 1 then some true else some false:Option (Bool)).bind fun x3=>bif x3 then bif decide ((a0.2.1.length:Int) > 0) then some (decide ((a0.2.1.length:Int) ≤ 16)) else some false else bif a0.1 == 3 then some ((a0.2.1.length:Int) == 0) else bif a0.1 == 4 then some ((a0.2.1.length:Int) == 0) else some false
noncomputable def orielref34_deed (a0:Int × K5605.T):Option (List UInt8):=(orielref12_Digits a0.2.1).bind fun x1=>req ([32].length + x1.length ≤ 9223372036854775807) <| (bif a0.2.2.2.2.2.1.1 == 1 then some true else some false:Option (Bool)).bind fun x2=>bif x2 then req ([107,101,121,115].length + ([32] ++ x1).length ≤ 9223372036854775807) <| req (([107,101,121,115] ++ ([32] ++ x1)).length + [32].length ≤ 9223372036854775807) <| (orielref34_Quoted a0.2.2.2.2.2.1.2.1).bind fun x3=>req ((([107,101,121,115] ++ ([32] ++ x1)) ++ [32]).length + x3.length ≤ 9223372036854775807) <| some ((([107,101,121,115] ++ ([32] ++ x1)) ++ [32]) ++ x3) else (bif a0.2.2.2.2.2.1.1 == 2 then some true else some false:Option (Bool)).bind fun x4=>bif x4 then req ([115,105,122,101].length + ([32] ++ x1).length ≤ 9223372036854775807) <| req (([115,105,122,101] ++ ([32] ++ x1)).length + [32].length ≤ 9223372036854775807) <| (orielref12_Digits a0.2.2.2.2.2.1.2.2.1).bind fun x5=>req ((([115,105,122,101] ++ ([32] ++ x1)) ++ [32]).length + x5.length ≤ 9223372036854775807) <| req (((([115,105,122,101] ++ ([32] ++ x1)) ++ [32]) ++ x5).length + [32].length ≤ 9223372036854775807) <| (orielref12_Digits a0.2.2.2.2.2.1.2.2.2).bind fun x6=>req ((((([115,105,122,101] ++ ([32] ++ x1)) ++ [32]) ++ x5) ++ [32]).length + x6.length ≤ 9223372036854775807) <| some ((((([115,105,122,101] ++ ([32] ++ x1)) ++ [32]) ++ x5) ++ [32]) ++ x6) else (bif a0.2.2.2.2.2.1.1 == 3 then some true else some false:Option (Bool)).bind fun x7=>bif x7 then req ([97,115,107].length + ([32] ++ x1).length ≤ 9223372036854775807) <| some ([97,115,107] ++ ([32] ++ x1)) else req ([102,114,101,101].length + ([32] ++ x1).length ≤ 9223372036854775807) <| some ([102,114,101,101] ++ ([32] ++ x1))
noncomputable def orielref34_Print (a0:Int × K5605.T):Option (List UInt8 × Bool):=(bif decide (a0.2.1 ≥ 1) then some (decide (a0.2.1 ≤ 8)) else some false:Option (Bool)).bind fun x1=>(((bif a0.1 == 1 then some true else some false:Option (Bool)).bind fun x68=>bif x68 then some x68 else (bif a0.1 == 3 then some true else some false:Option (Bool)).bind fun x69=>bif x69 then some x69 else bif a0.1 == 2 then some true else some false:Option (Bool)).bind fun x70=>bif x70 then ((bif a0.1 == 3 then some true else some false:Option (Bool)).bind fun x72=>bif x72 then some ([114,111,108,101,32]) else some ([106,111,105,110,32]):Option (List UInt8)).bind fun x73=>((bif a0.1 == 2 then some true else some false:Option (Bool)).bind fun x75=>bif x75 then some ([108,101,97,118,101,32]) else some x73:Option (List UInt8)).bind fun x76=>((bif x1 then some true else some false:Option (Bool)).bind fun x79=>bif x79 then (orielref12_Digits a0.2.1).bind fun x80=>req (x76.length + x80.length ≤ 9223372036854775807) <| some (x76 ++ x80) else some x76:Option (List UInt8)).bind fun x81=>(bif a0.1 != 2 then some true else some false:Option (Bool)).bind fun x82=>bif x82 then (bif x1 then bif a0.2.2.2.2.1 == 1 then some true else some (a0.2.2.2.2.1 == 2) else some false:Option (Bool)).bind fun x83=>(bif a0.2.2.2.2.1 == 1 then some true else some false:Option (Bool)).bind fun x84=>bif x84 then req (x81.length + [32,119,97,116,99,104].length ≤ 9223372036854775807) <| some ((x81 ++ [32,119,97,116,99,104]),x83,a0.2.1,0,0,a0.2.2.2.2.1,0,[],0,0,[]) else req (x81.length + [32,119,114,105,116,101].length ≤ 9223372036854775807) <| some ((x81 ++ [32,119,114,105,116,101]),x83,a0.2.1,0,0,a0.2.2.2.2.1,0,[],0,0,[]) else some (x81,x1,a0.2.1,0,0,0,0,[],0,0,[]) else (bif a0.1 == 4 then some true else some false:Option (Bool)).bind fun x85=>bif x85 then (orielref34_Quoted a0.2.2.2.2.2.2).bind fun x86=>req ([111,117,116,32].length + x86.length ≤ 9223372036854775807) <| some (([111,117,116,32] ++ x86),(decide ((a0.2.2.2.2.2.2.length:Int) ≤ 1000)),0,0,0,0,0,[],0,0,a0.2.2.2.2.2.2) else (bif a0.1 == 5 then some true else some false:Option (Bool)).bind fun x87=>bif x87 then (bif x1 then (orielref21_Deed a0.2.2.2.2.2.1).bind fun x89=>some x89 else some false:Option (Bool)).bind fun x90=>(bif x90 then some true else some false:Option (Bool)).bind fun x91=>bif x91 then (orielref34_deed a0).bind fun x92=>some (x92,x90,a0.2.1,0,0,0,a0.2.2.2.2.2.1.1,a0.2.2.2.2.2.1.2.1,a0.2.2.2.2.2.1.2.2.1,a0.2.2.2.2.2.1.2.2.2,[]) else some ([],x90,a0.2.1,0,0,0,a0.2.2.2.2.2.1.1,a0.2.2.2.2.2.1.2.1,a0.2.2.2.2.2.1.2.2.1,a0.2.2.2.2.2.1.2.2.2,[]) else ((bif a0.1 == 6 then some true else some false:Option (Bool)).bind fun x95=>bif x95 then some x95 else (bif a0.1 == 7 then some true else some false:Option (Bool)).bind fun x96=>bif x96 then some x96 else bif a0.1 == 8 then some true else some false:Option (Bool)).bind fun x97=>bif x97 then (bif decide (a0.2.2.1 ≥ 0) then some (decide (a0.2.2.1 ≤ 1073741824)) else some false:Option (Bool)).bind fun x98=>((bif a0.1 == 6 then some true else some false:Option (Bool)).bind fun x100=>bif x100 then bif decide (a0.2.2.1 ≥ 1) then some ([116,105,99,107,32],(decide (a0.2.2.1 ≤ 10000))) else some ([116,105,99,107,32],false) else some (lit_b92a4,x98):Option (List UInt8 × Bool)).bind fun x101=>((bif a0.1 == 8 then some true else some false:Option (Bool)).bind fun x103=>bif x103 then bif x101.2 then bif decide (a0.2.2.2.1 ≥ 1) then some ([115,112,111,105,108,32],(decide (a0.2.2.2.1 ≤ 255)),a0.2.2.2.1) else some ([115,112,111,105,108,32],false,a0.2.2.2.1) else some ([115,112,111,105,108,32],false,a0.2.2.2.1) else some (x101.1,x101.2,0):Option (List UInt8 × Bool × Int)).bind fun x104=>((bif x104.2.1 then some true else some false:Option (Bool)).bind fun x107=>bif x107 then (orielref12_Digits a0.2.2.1).bind fun x108=>req (x104.1.length + x108.length ≤ 9223372036854775807) <| some (x104.1 ++ x108) else some x104.1:Option (List UInt8)).bind fun x109=>(bif x104.2.1 then bif a0.1 == 8 then some true else some false else some false:Option (Bool)).bind fun x110=>bif x110 then req (x109.length + [32].length ≤ 9223372036854775807) <| (orielref12_Digits a0.2.2.2.1).bind fun x111=>req ((x109 ++ [32]).length + x111.length ≤ 9223372036854775807) <| some (((x109 ++ [32]) ++ x111),x104.2.1,0,a0.2.2.1,x104.2.2,0,0,[],0,0,[]) else some (x109,x104.2.1,0,a0.2.2.1,x104.2.2,0,0,[],0,0,[]) else ((bif a0.1 == 9 then some true else some false:Option (Bool)).bind fun x113=>bif x113 then some x113 else bif a0.1 == 10 then some true else some false:Option (Bool)).bind fun x114=>bif x114 then (bif x1 then bif decide (a0.2.2.1 ≥ 0) then some (decide (a0.2.2.1 ≤ 65535)) else some false else some false:Option (Bool)).bind fun x115=>((bif x115 then some true else some false:Option (Bool)).bind fun x119=>bif x119 then (orielref12_Digits a0.2.1).bind fun x120=>req ([109,111,118,101,32].length + x120.length ≤ 9223372036854775807) <| req (([109,111,118,101,32] ++ x120).length + [32].length ≤ 9223372036854775807) <| (orielref12_Digits a0.2.2.1).bind fun x121=>req ((([109,111,118,101,32] ++ x120) ++ [32]).length + x121.length ≤ 9223372036854775807) <| some ((([109,111,118,101,32] ++ x120) ++ [32]) ++ x121) else some ([]):Option (List UInt8)).bind fun x122=>(bif a0.1 == 10 then some true else some false:Option (Bool)).bind fun x123=>bif x123 then (bif x115 then bif a0.2.2.2.1 == 0 then some (decide ((a0.2.2.2.2.2.2.length:Int) ≤ 1000)) else bif a0.2.2.2.1 == 1 then some (decide ((a0.2.2.2.2.2.2.length:Int) ≤ 1000)) else some false else some false:Option (Bool)).bind fun x124=>(bif x124 then some true else some false:Option (Bool)).bind fun x125=>bif x125 then (orielref12_Digits a0.2.1).bind fun x126=>req ([102,111,114,103,101,32].length + x126.length ≤ 9223372036854775807) <| req (([102,111,114,103,101,32] ++ x126).length + [32].length ≤ 9223372036854775807) <| (orielref12_Digits a0.2.2.1).bind fun x127=>req ((([102,111,114,103,101,32] ++ x126) ++ [32]).length + x127.length ≤ 9223372036854775807) <| req (((([102,111,114,103,101,32] ++ x126) ++ [32]) ++ x127).length + [32].length ≤ 9223372036854775807) <| bif a0.2.2.2.1 == 0 then req ((((([102,111,114,103,101,32] ++ x126) ++ [32]) ++ x127) ++ [32]).length + [104,117,98].length ≤ 9223372036854775807) <| req (((((([102,111,114,103,101,32] ++ x126) ++ [32]) ++ x127) ++ [32]) ++ [104,117,98]).length + [32].length ≤ 9223372036854775807) <| (orielref34_Quoted a0.2.2.2.2.2.2).bind fun x129=>req ((((((([102,111,114,103,101,32] ++ x126) ++ [32]) ++ x127) ++ [32]) ++ [104,117,98]) ++ [32]).length + x129.length ≤ 9223372036854775807) <| some (((((((([102,111,114,103,101,32] ++ x126) ++ [32]) ++ x127) ++ [32]) ++ [104,117,98]) ++ [32]) ++ x129),x124,a0.2.1,a0.2.2.1,a0.2.2.2.1,0,0,[],0,0,a0.2.2.2.2.2.2) else bif a0.2.2.2.1 == 1 then req ((((([102,111,114,103,101,32] ++ x126) ++ [32]) ++ x127) ++ [32]).length + [118,105,101,119].length ≤ 9223372036854775807) <| req (((((([102,111,114,103,101,32] ++ x126) ++ [32]) ++ x127) ++ [32]) ++ [118,105,101,119]).length + [32].length ≤ 9223372036854775807) <| (orielref34_Quoted a0.2.2.2.2.2.2).bind fun x128=>req ((((((([102,111,114,103,101,32] ++ x126) ++ [32]) ++ x127) ++ [32]) ++ [118,105,101,119]) ++ [32]).length + x128.length ≤ 9223372036854775807) <| some (((((((([102,111,114,103,101,32] ++ x126) ++ [32]) ++ x127) ++ [32]) ++ [118,105,101,119]) ++ [32]) ++ x128),x124,a0.2.1,a0.2.2.1,a0.2.2.2.1,0,0,[],0,0,a0.2.2.2.2.2.2) else none else some (x122,x124,a0.2.1,a0.2.2.1,a0.2.2.2.1,0,0,[],0,0,a0.2.2.2.2.2.2) else some (x122,x115,a0.2.1,a0.2.2.1,0,0,0,[],0,0,[]) else some ([],false,0,0,0,0,0,[],0,0,[]):Option (List UInt8 × Bool × Int × Int × Int × Int × Int × List UInt8 × Int × Int × List UInt8)).bind fun x130=>(bif !x130.2.1 then some true else (orielref34_Same a0 (a0.1,x130.2.2.1,x130.2.2.2.1,x130.2.2.2.2.1,x130.2.2.2.2.2.1,(x130.2.2.2.2.2.2.1,x130.2.2.2.2.2.2.2.1,x130.2.2.2.2.2.2.2.2.1,x130.2.2.2.2.2.2.2.2.2.1),x130.2.2.2.2.2.2.2.2.2.2)).bind fun x132=>bif !x132 then some true else some false:Option (Bool)).bind fun x133=>bif x133 then some ([],false) else some (x130.1,true)
noncomputable def oriellaw34_ScriptMany_loop1 (a0:Int) (x4:List UInt8 × Bool) (a1:Int × K5605.T) (x7:List UInt8 × Int × (List (Int × K5605.T))):Option (((List UInt8 × (List (Int × K5605.T)))) ⊕ (List UInt8 × Int × (List (Int × K5605.T)))):=(bif decide (x7.2.1 < a0) then some true else some false:Option (Bool)).bind fun x8=>bif x8 then req (x4.1.length + [10].length ≤ 9223372036854775807) <| req (x7.1.length + (x4.1 ++ [10]).length ≤ 9223372036854775807) <| req (x7.2.2.length = x7.2.2.length) <| req ((x7.2.2 ++ [a1]).length * 112 ≤ maxBy) <| req ((x7.2.2 ++ [a1]).length = (x7.2.2 ++ [a1]).length) (some (.inr ((x7.1 ++ (x4.1 ++ [10])),IntKind.i64.wrap (x7.2.1 + 1),x7.2.2 ++ [a1]))) else req (x7.2.2.length = x7.2.2.length) (some (.inl (x7.1,x7.2.2)))
noncomputable def oriellaw34_ScriptMany (a0:Int) (a1:Int × K5605.T):Option (Bool):=((oriellaw34_known).bind fun x2=>bif !x2 then some true else some false:Option (Bool)).bind fun x3=>bif x3 then some false else (orielref34_Print a1).bind fun x4=>(bif decide (a0 < 0) then some true else bif decide (a0 > 1100) then some true else bif !x4.2 then some true else bif decide ((x4.1.length:Int) > 60) then some true else some false:Option (Bool)).bind fun x5=>bif x5 then some true else (loopO (oriellaw34_ScriptMany_loop1 a0 x4 a1) ([],0,[])).bind fun x9=>(script_Parse x9.1).bind fun x10=>req (x9.2.length = x9.2.length) <| (script_Print x9.2).bind fun x11=>(bif decide (a0 > 1000) then some true else some false:Option (Bool)).bind fun x12=>bif x12 then (oriellaw34_fault x10.2).bind fun x13=>bif (x10.1.length:Int) == 0 then bif x13.1 == 1001 then bif x13.2 == 1 then bif (x11.1:List UInt8) == [] then some (x11.2 == 1000) else some false else some false else some false else some false else bif x10.2.isNone then bif (x10.1.length:Int) == a0 then bif (x11.1:List UInt8) == x9.1 then some (x11.2 == a0) else some false else some false else some false
end Go.SH
namespace Go.SH
theorem qb10_fin:∀ i:_root_.Fin 256,(10:UInt8) ∉ qb (UInt8.ofNat i.val):=by decide +kernel
theorem qb10 (x:UInt8):(10:UInt8) ∉ qb x:=u8_all (P:=fun x=>(10:UInt8) ∉ qb x) qb10_fin x
theorem quot10 (b:List UInt8):(10:UInt8) ∉ quotS b:=by
  unfold quotS
  simp only [List.mem_cons,List.mem_append,List.mem_flatMap,List.not_mem_nil,or_false,not_or]
  refine ⟨by decide,?_,by decide⟩
  rintro ⟨x,_,hx⟩
  exact qb10 x hx
theorem dd10 (n:Nat):(10:UInt8) ∉ Lib.decDigits n:=by
  intro h
  have:=List.all_eq_true.1 (dd_all n) 10 h
  exact absurd this (by decide)
theorem it10 (n:Int):(10:UInt8) ∉ itS n:=by
  unfold itS Lib.itoa
  split
  · simp only [List.mem_cons,not_or]
    exact ⟨by decide,dd10 _⟩
  · exact dd10 _
theorem rl10 (r:Int):(10:UInt8) ∉ rlS r:=by
  unfold rlS
  split
  · decide
  · split <;> decide
theorem ite10 {c:Prop} [Decidable c] {a b:List UInt8} (h1:(10:UInt8) ∉ a) (h2:(10:UInt8) ∉ b):(10:UInt8) ∉ (if c then a else b):=by split <;> assumption
theorem app10 {a b:List UInt8} (h1:(10:UInt8) ∉ a) (h2:(10:UInt8) ∉ b):(10:UInt8) ∉ a ++ 32 :: b:=by
  simp only [List.mem_append,List.mem_cons,not_or]
  exact ⟨h1,by decide,h2⟩
theorem app10' {a b:List UInt8} (h1:(10:UInt8) ∉ a) (h2:(10:UInt8) ∉ b):(10:UInt8) ∉ a ++ b:=by
  simp only [List.mem_append,not_or]
  exact ⟨h1,h2⟩
theorem words10 (e:EvT):(10:UInt8) ∉ wordsS e:=by
  unfold wordsS
  repeat' apply ite10
  all_goals refine app10 (by decide) ?_
  all_goals first
    | exact it10 _ | exact quot10 _ | exact app10' (it10 _) (rl10 _) | exact app10 (it10 _) (it10 _) | exact app10 (it10 _) (quot10 _) | exact app10 (it10 _) (app10 (it10 _) (it10 _))
    | exact app10 (it10 _) (app10 (it10 _) (app10 (by split <;> decide) (quot10 _)))
theorem has_len {e:EvT} (h:okE e) (hh:hasLn e = true):(wordsS e).length ≤ 3100:=by
  unfold hasLn at hh
  simp only [Bool.and_eq_true,decide_eq_true_eq] at hh
  obtain ⟨b1,b2,_⟩:=hh
  obtain ⟨k,id,n,m,role,⟨dk,t,r,c⟩,b⟩:=e
  obtain ⟨h1,h2,h3,h4,h5,h6,h7⟩:=h
  simp only at h1 h2 h3 h4 h5 h6 h7 b1 b2
  have l1:=it_len h1
  have l2:=it_len h2
  have l3:=it_len h3
  have l4:=it_len h4
  have l5:=it_len h5
  have l6:=quot_len b
  have l7:=quot_len t
  have l8:=rl_len role
  have l9:(if m = 0 then wHub else wView).length ≤ 4:=by split <;> decide
  unfold wordsS
  repeat' apply ite_le
  all_goals simp [nmJ,nmR,nmL,nmA,nmF,nmO,nmK,nmS,nmT,nmD,nmP,nmM,nmG]
  all_goals omega
/-- The text of events, each with a line. -/
def linesS (l:List EvT):List UInt8:=l.flatMap fun e=>wordsS e ++ [10]
def printS:List EvT → Nat → List UInt8 → List UInt8 × Int
  | [],i,acc=>(acc,i)
  | e :: r,i,acc=>if hasLn e = true ∧ i < 1000 then printS r (i + 1) (acc ++ wordsS e ++ [10]) else ([],i)
theorem goP_eq {l:List EvT} (hok:∀ e ∈ l,okE e):∀ (k i:Nat) (acc:List UInt8),i + k = l.length →
    Go.Proofs.Sp.goP (fun i=>(l[i]?).bind script_Line) k i acc = some (printS (l.drop i) i acc):=by
  intro k
  induction k with
  | zero=>intro i acc h;rw [List.drop_of_length_le (by omega)];rfl
  | succ k ih=>
    intro i acc h
    have hlt:i < l.length:=by omega
    rw [List.drop_eq_getElem_cons hlt]
    have ho:=hok l[i] (List.getElem_mem hlt)
    unfold Go.Proofs.Sp.goP printS
    simp only [List.getElem?_eq_getElem hlt,Option.bind_some,Line_ok ho]
    cases hh:hasLn l[i] with
    | false=>simp
    | true=>
      have:=has_len ho hh
      by_cases h1:i < 1000
      · simp only [if_true,Bool.true_eq_false,false_or]
        rw [if_neg (by omega),if_pos (by omega),if_pos ⟨trivial,h1⟩,ih (i + 1) _ (by omega)]
      · simp only [if_true,Bool.true_eq_false,false_or]
        rw [if_pos (by omega),if_neg (fun h=>h1 h.2)]
theorem Print_eq {l:List EvT} (hok:∀ e ∈ l,okE e):script_Print l = some (printS l 0 []):=by
  unfold script_Print
  rw [goP_eq hok l.length 0 [] (by omega)];rfl
theorem printS_all:∀ (l:List EvT) (i:Nat) (acc:List UInt8),(∀ e ∈ l,hasLn e = true) → i + l.length ≤ 1000 → printS l i acc = (acc ++ linesS l,((i + l.length:Nat):Int))
  | [],i,acc,_,_=>by simp [printS,linesS]
  | e :: r,i,acc,h,hi=>by
    simp only [List.length_cons] at hi
    unfold printS
    rw [if_pos ⟨h e (by simp),by omega⟩,printS_all r (i + 1) _ (fun x hx=>h x (by simp [hx])) (by omega)]
    simp only [linesS,List.flatMap_cons,List.append_assoc,List.length_cons,Prod.mk.injEq,true_and]
    omega
theorem PN_linesS:∀ (l:List EvT) (n:Nat),(∀ e ∈ l,okE e ∧ hasLn e = true) → n + l.length ≤ 1001 → PN n (linesS l) = .inl l
  | [],n,_,_=>PN_nil n
  | e :: r,n,h,hn=>by
    simp only [List.length_cons] at hn
    obtain ⟨h1,h2⟩:=h e (by simp)
    have hl:=has_len h1 h2
    have et:linesS (e :: r) = wordsS e ++ 10 :: linesS r:=by simp [linesS]
    obtain ⟨b1,b2⟩:=bef_app (c:=10) (x:=wordsS e) (r:=linesS r) (words10 e)
    rw [et,PN_step (e:=e) (by simp) (by rw [b1];omega) (by simp) (by rw [b1];exact hasLn_line h2),b2,PN_linesS r (n + 1) (fun x hx=>h x (by simp [hx])) (by omega)]
end Go.SH
namespace Go.SH
open Lib (decDigits)
/-- What a word of a kind may say. -/
def maySay (k:UInt8) (x:WdT):Prop:=
  if k = 82 ∨ k = 83 then x.2 = [] ∧ (x.1 = 0 ∨ x.1 = 1) else
  if k = 84 then x.1 = 0 ∧ x.2.length ≤ 1000 else
  if k = 75 then x.1 = 0 ∧ 1 ≤ x.2.length ∧ x.2.length ≤ 16 else
  x.2 = [] ∧ kLo k ≤ x.1 ∧ x.1 ≤ kHi k
/-- .. and how it is written. -/
def sayS (k:UInt8) (x:WdT):List UInt8:=
  if k = 82 then (if x.1 = 0 then wWatch else wWrite) else
  if k = 83 then (if x.1 = 0 then wHub else wView) else
  if k = 84 ∨ k = 75 then quotS x.2 else decDigits x.1.toNat
def maySayL:List UInt8 → List WdT → Prop
  | [],[]=>True
  | k :: ks,x :: xs=>maySay k x ∧ maySayL ks xs
  | _,_=>False
def sayL:List UInt8 → List WdT → List (List UInt8)
  | k :: ks,x :: xs=>sayS k x :: sayL ks xs
  | _,_=>[]
theorem kLo_pos (k:UInt8):0 ≤ kLo k:=by unfold kLo;split <;> omega
theorem kHi_le (k:UInt8):kHi k ≤ 1073741824:=by
  unfold kHi
  repeat' split
  all_goals omega
theorem qb_fin:∀ i:_root_.Fin 256,(plainB (UInt8.ofNat i.val) = false → badE (hd1 (UInt8.ofNat i.val)) (hd2 (UInt8.ofNat i.val)) = false ∧ hxI (hexI (hd1 (UInt8.ofNat i.val))) (hexI (hd2 (UInt8.ofNat i.val))) = UInt8.ofNat i.val):=by decide +kernel
theorem qb_esc (x:UInt8):plainB x = false → badE (hd1 x) (hd2 x) = false ∧ hxI (hexI (hd1 x)) (hexI (hd2 x)) = x:=
  u8_all (P:=fun x=>plainB x = false → badE (hd1 x) (hd2 x) = false ∧ hxI (hexI (hd1 x)) (hexI (hd2 x)) = x) qb_fin x
theorem unq_flat:∀ (o:List UInt8),unq (o.flatMap qb) = some o
  | []=>unq_nil
  | x :: r=>by
    rw [List.flatMap_cons]
    cases hp:plainB x with
    | true=>
      have:qb x = [x]:=by simp [qb,hp]
      rw [this,List.singleton_append,unq_plain hp,unq_flat r];rfl
    | false=>
      obtain ⟨h1,h2⟩:=qb_esc x hp
      have:qb x = [92,hd1 x,hd2 x]:=by simp [qb,hp]
      rw [this]
      show unq (92 :: hd1 x :: hd2 x :: r.flatMap qb) = _
      rw [unq_esc,h1,cond_false,unq_flat r,h2];rfl
theorem inner_quot (o:List UInt8):inner (quotS o) = o.flatMap qb:=by
  unfold inner quotS
  simp
theorem qS_quot (o:List UInt8):qS (quotS o) = some o:=by
  unfold qS
  rw [if_pos ⟨by simp [quotS],by simp [quotS],by simp [quotS,List.getLast?_cons]⟩,inner_quot,unq_flat]
theorem text_quot {o:List UInt8} {lo hi:Int} (h1:lo ≤ o.length) (h2:(o.length:Int) ≤ hi):textS (quotS o) lo hi = some o:=by
  unfold textS
  rw [qS_quot]
  simp only
  rw [dec_f (by omega),dec_f (by omega)];rfl
/-- What is written is read again. -/
theorem read_wr {k:UInt8} {x:WdT} (h:maySay k x):readS k (sayS k x) = .inl x:=by
  obtain ⟨v,o⟩:=x
  unfold maySay at h
  unfold readS sayS
  by_cases h1:k = 82
  · rw [if_pos (.inl h1)] at h
    obtain ⟨rfl,h⟩:=h
    simp only [h1,if_true]
    rcases h with h | h <;> simp only at h <;> subst h <;> simp [choiceS,wWatch,wWrite]
  by_cases h2:k = 83
  · rw [if_pos (.inr h2)] at h
    obtain ⟨rfl,h⟩:=h
    subst h2
    rcases h with h | h <;> simp only at h <;> subst h <;> simp [choiceS,wHub,wView]
  rw [if_neg (by simp [h1,h2])] at h
  by_cases h3:k = 84
  · rw [if_pos h3] at h
    subst h3
    obtain ⟨rfl,h⟩:=h
    simp only at h
    simp [text_quot (lo:=0) (hi:=1000) (o:=o) (by omega) (by omega)]
  rw [if_neg h3] at h
  by_cases h4:k = 75
  · rw [if_pos h4] at h
    subst h4
    obtain ⟨rfl,h,h'⟩:=h
    simp only at h h'
    simp [text_quot (lo:=1) (hi:=16) (o:=o) (by omega) (by omega)]
  rw [if_neg h4] at h
  obtain ⟨rfl,h,h'⟩:=h
  simp only at h h'
  have:=kLo_pos k
  have:=kHi_le k
  simp only [h1,h2,h3,h4,if_false,or_self]
  rw [numS_dd h h' (by omega) (by omega)]
/-- .. and what is read may be said. -/
theorem read_ok {k:UInt8} {p:List UInt8} {x:WdT} (h:readS k p = .inl x):maySay k x:=by
  unfold readS at h
  unfold maySay
  by_cases h1:k = 82
  · rw [if_pos h1] at h
    rw [if_pos (.inl h1)]
    unfold choiceS at h
    split at h
    · rename_i v hv
      simp at h;subst h
      split at hv
      · simp at hv;subst hv;simp
      · split at hv
        · simp at hv;subst hv;simp
        · simp at hv
    · simp at h
  rw [if_neg h1] at h
  by_cases h2:k = 83
  · rw [if_pos h2] at h
    rw [if_pos (.inr h2)]
    unfold choiceS at h
    split at h
    · rename_i v hv
      simp at h;subst h
      split at hv
      · simp at hv;subst hv;simp
      · split at hv
        · simp at hv;subst hv;simp
        · simp at hv
    · simp at h
  rw [if_neg h2] at h
  rw [if_neg (by simp [h1,h2])]
  by_cases h3:k = 84
  · rw [if_pos h3] at h
    rw [if_pos h3]
    split at h
    · rename_i o ho
      simp at h;subst h
      obtain ⟨_,_,c⟩:=text_back ho
      exact ⟨rfl,by simpa using (by omega:o.length ≤ 1000)⟩
    · simp at h
  rw [if_neg h3] at h
  rw [if_neg h3]
  by_cases h4:k = 75
  · rw [if_pos h4] at h
    rw [if_pos h4]
    split at h
    · rename_i o ho
      simp at h;subst h
      obtain ⟨_,b,c⟩:=text_back ho
      exact ⟨rfl,by simpa using (by omega:1 ≤ o.length),by simpa using (by omega:o.length ≤ 16)⟩
    · simp at h
  rw [if_neg h4] at h
  rw [if_neg h4]
  split at h
  · rename_i v hv
    simp at h;subst h
    obtain ⟨a,b,_⟩:=numS_some hv
    exact ⟨rfl,a,b⟩
  · simp at h
theorem readL_wr:∀ {ks:List UInt8} {w:List WdT},maySayL ks w → readL ks (sayL ks w) = .inl w
  | [],[],_=>rfl
  | k :: ks,x :: xs,h=>by
    show readL (k :: ks) (sayS k x :: sayL ks xs) = _
    rw [readL_cons,read_wr h.1]
    simp only
    rw [readL_wr h.2]
  | [],_ :: _,h=>h.elim
  | _ :: _,[],h=>h.elim
theorem readL_ok:∀ {ks:List UInt8} {ws:List (List UInt8)} {w:List WdT},ws.length = ks.length → readL ks ws = .inl w → maySayL ks w
  | [],[],w,_,h=>by obtain rfl:=readL_nil h;exact trivial
  | k :: ks,p :: ps,w,hl,h=>by
    obtain ⟨x,r,h1,h2,rfl⟩:=readL_some h
    exact ⟨read_ok h1,readL_ok (by simpa using hl) h2⟩
  | [],_ :: _,_,hl,_=>by simp at hl
  | _ :: _,[],_,hl,_=>by simp at hl
theorem maySay_len:∀ {ks:List UInt8} {w:List WdT},maySayL ks w → w.length = ks.length ∧ (sayL ks w).length = ks.length
  | [],[],_=>⟨rfl,rfl⟩
  | k :: ks,x :: xs,h=>by
    obtain ⟨a,b⟩:=maySay_len h.2
    exact ⟨by simp [a],by simp [sayL,b]⟩
  | [],_ :: _,h=>h.elim
  | _ :: _,[],h=>h.elim
theorem sp_digits (n:Nat):(32:UInt8) ∉ decDigits n:=by
  intro h
  exact absurd (List.all_eq_true.1 (dd_all n) 32 h) (by decide)
theorem wr_nosp {k:UInt8} {x:WdT} (h4:k ≠ 84) (h5:k ≠ 75):(32:UInt8) ∉ sayS k x:=by
  unfold sayS
  split
  · split <;> decide
  · split
    · split <;> decide
    · rw [if_neg (by simp [h4,h5])]
      exact sp_digits _
/-- Texts stand last. -/
def lastT:List UInt8 → Bool
  | []=>true
  | [_]=>true
  | k :: ks=>k != 84 && (k != 75 && lastT ks)
theorem spl_join:∀ {ks:List UInt8} {w:List WdT},lastT ks = true → ks ≠ [] → maySayL ks w → splN 32 (ks.length - 1) (joinS (sayL ks w)) = sayL ks w
  | [],_,_,h,_=>absurd rfl h
  | [k],[x],_,_,_=>rfl
  | k :: k' :: ks,x :: x' :: xs,hl,_,h=>by
    simp only [lastT,Bool.and_eq_true,bne_iff_ne,ne_eq] at hl
    have ih:=spl_join (ks:=k' :: ks) (w:=x' :: xs) hl.2.2 (by simp) h.2
    have hn:=wr_nosp (x:=x) hl.1 hl.2.1
    have hj:joinS (sayL (k :: k' :: ks) (x :: x' :: xs)) = sayS k x ++ 32 :: joinS (sayL (k' :: ks) (x' :: xs)):=rfl
    obtain ⟨b1,b2⟩:=bef_app (c:=32) (x:=sayS k x) (r:=joinS (sayL (k' :: ks) (x' :: xs))) hn
    rw [hj]
    show splN 32 (ks.length + 1) _ = _
    unfold splN
    rw [if_pos (by simp),b1,b2]
    have:splN 32 ks.length (joinS (sayL (k' :: ks) (x' :: xs))) = sayL (k' :: ks) (x' :: xs):=ih
    rw [this];rfl
  | [_],[],_,_,h=>h.elim
  | [_],_ :: _ :: _,_,_,h=>h.2.elim
  | _ :: _ :: _,[_],_,_,h=>h.2.elim
  | _ :: _ :: _,[],_,_,h=>h.elim
theorem names_form:∀ f ∈ names,lastT (formS f) = true ∧ formS f ≠ [] ∧ (32:UInt8) ∉ f:=by decide
/-- An event that words tell has their line. -/
theorem line_of {f:List UInt8} {w:List WdT} (hf:f ∈ names) (hw:maySayL (formS f) w):lineS (f ++ 32 :: joinS (sayL (formS f) w)) = .inl (evS f w):=by
  obtain ⟨h1,h2,h3⟩:=names_form f hf
  obtain ⟨b1,b2⟩:=bef_app (c:=32) (x:=f) (r:=joinS (sayL (formS f) w)) h3
  have hs:=spl_join h1 h2 hw
  have hl:=(maySay_len hw).2
  unfold lineS
  rw [if_neg (by simp [b1,hf]),b1,b2,hs,if_neg (by omega),readL_wr hw]
theorem has_of {f:List UInt8} {w:List WdT} (hf:f ∈ names) (hw:maySayL (formS f) w):hasLn (evS f w) = true ∧ wordsS (evS f w) = f ++ 32 :: joinS (sayL (formS f) w):=
  ⟨(line_has (line_of hf hw)).2.2,(line_has (line_of hf hw)).1⟩
theorem of_has {e:EvT} (h:hasLn e = true):∃ f w,f ∈ names ∧ maySayL (formS f) w ∧ e = evS f w:=by
  obtain ⟨f,ps,w,hf,hl,hr,he,_⟩:=line_shape (hasLn_line h)
  exact ⟨f,w,hf,readL_ok hl hr,he⟩
end Go.SH
namespace Go.SH
open Lib (decDigits)
theorem rhx1_fin:∀ i:_root_.Fin 256,orielref34_hex (IntKind.i64.wrap (Int.tdiv (IntKind.i64.wrap ((UInt8.ofNat i.val).toNat:Int)) 16)) = some (hd1 (UInt8.ofNat i.val)):=by decide +kernel
theorem rhx2_fin:∀ i:_root_.Fin 256,orielref34_hex (Int.tmod (IntKind.i64.wrap ((UInt8.ofNat i.val).toNat:Int)) 16) = some (hd2 (UInt8.ofNat i.val)):=by decide +kernel
theorem rhx1 (x:UInt8):orielref34_hex (IntKind.i64.wrap (Int.tdiv (IntKind.i64.wrap (x.toNat:Int)) 16)) = some (hd1 x):=
  u8_all (P:=fun x=>orielref34_hex (IntKind.i64.wrap (Int.tdiv (IntKind.i64.wrap (x.toNat:Int)) 16)) = some (hd1 x)) rhx1_fin x
theorem rhx2 (x:UInt8):orielref34_hex (Int.tmod (IntKind.i64.wrap (x.toNat:Int)) 16) = some (hd2 x):=
  u8_all (P:=fun x=>orielref34_hex (Int.tmod (IntKind.i64.wrap (x.toNat:Int)) 16) = some (hd2 x)) rhx2_fin x
theorem rquot_loop {b:List UInt8} (hl:b.length < 40000000000000):∀ (m i:Nat) (acc:List UInt8),i + m = b.length → acc.length ≤ 1 + 3 * i →
    loopO (orielref34_Quoted_loop1 b) ((i:Int),acc) = some (acc ++ (b.drop i).flatMap qb):=by
  intro m
  induction m with
  | zero=>
    intro i acc hi ha
    rw [loopO_eq]
    unfold orielref34_Quoted_loop1
    simp only [boolO,Option.bind_some]
    rw [dec_f (by omega),List.drop_of_length_le (by omega)]
    simp [req_pos]
  | succ m ih=>
    intro i acc hi ha
    have hlt:i < b.length:=by omega
    rw [loopO_eq,List.drop_eq_getElem_cons hlt]
    have hst:orielref34_Quoted_loop1 b ((i:Int),acc) = some (.inr (((i + 1:Nat):Int),acc ++ qb b[i])):=by
      unfold orielref34_Quoted_loop1 qb
      simp only [boolO,Option.bind_some,show getI b (i:Int) = some b[i] from by rw [getI_nat,List.getElem?_eq_getElem hlt],rplain_eq,rhx1,rhx2]
      rw [dec_t (by omega)]
      cases plainB b[i] with
      | true=>
        simp only [cond_true]
        rw [req_pos trivial,req_pos (by simp [maxBy];omega),req_pos trivial,Option.bind_some,req_pos trivial,w64id (by omega)]
        rfl
      | false=>
        simp only [cond_true,cond_false]
        rw [req_pos trivial,req_pos (by simp [maxBy];omega),req_pos trivial,Option.bind_some,req_pos trivial,w64id (by omega)]
        rfl
    rw [hst]
    simp only
    have:=qb_len b[i]
    rw [ih (i + 1) (acc ++ qb b[i]) (by omega) (by simp;omega),List.flatMap_cons,List.append_assoc]
theorem rQuoted_eq {b:List UInt8} (hl:b.length < 40000000000000):orielref34_Quoted b = some (quotS b):=by
  unfold orielref34_Quoted
  have:=rquot_loop hl b.length 0 [34] (by omega) (by simp)
  rw [show ((0:Nat):Int) = 0 from rfl,List.drop_zero] at this
  have hf:=flat_len b
  rw [this,Option.bind_some,req_pos rfl,req_pos (by simp only [List.length_append,List.length_cons,List.length_nil,maxBy];omega),req_pos rfl]
  simp [quotS]
abbrev d0:DdT:=(0,[],0,0)
def idOk (n:Int):Prop:=1 ≤ n ∧ n ≤ 8
def Forms (e:EvT):Prop:=
  (∃ id r,idOk id ∧ (r = 1 ∨ r = 2) ∧ e = (1,id,0,0,r,d0,[])) ∨
  (∃ id r,idOk id ∧ (r = 1 ∨ r = 2) ∧ e = (3,id,0,0,r,d0,[])) ∨
  (∃ id,idOk id ∧ e = (2,id,0,0,0,d0,[])) ∨
  (∃ id,idOk id ∧ e = (5,id,0,0,0,(3,[],0,0),[])) ∨
  (∃ id,idOk id ∧ e = (5,id,0,0,0,(4,[],0,0),[])) ∨
  (∃ b:List UInt8,b.length ≤ 1000 ∧ e = (4,0,0,0,0,d0,b)) ∨
  (∃ id,∃ t:List UInt8,idOk id ∧ 1 ≤ t.length ∧ t.length ≤ 16 ∧ e = (5,id,0,0,0,(1,t,0,0),[])) ∨
  (∃ id r c,idOk id ∧ (1 ≤ r ∧ r ≤ 1000) ∧ (1 ≤ c ∧ c ≤ 1000) ∧ e = (5,id,0,0,0,(2,[],r,c),[])) ∨
  (∃ n,(1 ≤ n ∧ n ≤ 10000) ∧ e = (6,0,n,0,0,d0,[])) ∨
  (∃ n,(0 ≤ n ∧ n ≤ 1073741824) ∧ e = (7,0,n,0,0,d0,[])) ∨
  (∃ n m,(0 ≤ n ∧ n ≤ 1073741824) ∧ (1 ≤ m ∧ m ≤ 255) ∧ e = (8,0,n,m,0,d0,[])) ∨
  (∃ id n,idOk id ∧ (0 ≤ n ∧ n ≤ 65535) ∧ e = (9,id,n,0,0,d0,[])) ∨
  (∃ id n m,∃ b:List UInt8,idOk id ∧ (0 ≤ n ∧ n ≤ 65535) ∧ (m = 0 ∨ m = 1) ∧ b.length ≤ 1000 ∧ e = (10,id,n,m,0,d0,b))
theorem w1 {k:UInt8} {w:List WdT} (h:maySayL [k] w):∃ x,w = [x] ∧ maySay k x:=by
  match w,h with
  | [x],h=>exact ⟨x,rfl,h.1⟩
theorem w2 {k k':UInt8} {w:List WdT} (h:maySayL [k,k'] w):∃ x y,w = [x,y] ∧ maySay k x ∧ maySay k' y:=by
  match w,h with
  | [x,y],h=>exact ⟨x,y,rfl,h.1,h.2.1⟩
theorem w3 {k k' k'':UInt8} {w:List WdT} (h:maySayL [k,k',k''] w):∃ x y z,w = [x,y,z] ∧ maySay k x ∧ maySay k' y ∧ maySay k'' z:=by
  match w,h with
  | [x,y,z],h=>exact ⟨x,y,z,rfl,h.1,h.2.1,h.2.2.1⟩
theorem w4 {k k' k'' k3:UInt8} {w:List WdT} (h:maySayL [k,k',k'',k3] w):∃ x y z u,w = [x,y,z,u] ∧ maySay k x ∧ maySay k' y ∧ maySay k'' z ∧ maySay k3 u:=by
  match w,h with
  | [x,y,z,u],h=>exact ⟨x,y,z,u,rfl,h.1,h.2.1,h.2.2.1,h.2.2.2.1⟩
theorem may73 {x:WdT}:maySay 73 x ↔ x.2 = [] ∧ idOk x.1:=by simp [maySay,kLo,kHi,idOk]
theorem may82 {x:WdT}:maySay 82 x ↔ x.2 = [] ∧ (x.1 = 0 ∨ x.1 = 1):=by simp [maySay]
theorem may83 {x:WdT}:maySay 83 x ↔ x.2 = [] ∧ (x.1 = 0 ∨ x.1 = 1):=by simp [maySay]
theorem may84 {x:WdT}:maySay 84 x ↔ x.1 = 0 ∧ x.2.length ≤ 1000:=by simp [maySay]
theorem may75 {x:WdT}:maySay 75 x ↔ x.1 = 0 ∧ 1 ≤ x.2.length ∧ x.2.length ≤ 16:=by simp [maySay]
theorem may87 {x:WdT}:maySay 87 x ↔ x.2 = [] ∧ 1 ≤ x.1 ∧ x.1 ≤ 1000:=by simp [maySay,kLo,kHi]
theorem may78 {x:WdT}:maySay 78 x ↔ x.2 = [] ∧ 1 ≤ x.1 ∧ x.1 ≤ 10000:=by simp [maySay,kLo,kHi]
theorem may80 {x:WdT}:maySay 80 x ↔ x.2 = [] ∧ 0 ≤ x.1 ∧ x.1 ≤ 1073741824:=by simp [maySay,kLo,kHi]
theorem may88 {x:WdT}:maySay 88 x ↔ x.2 = [] ∧ 1 ≤ x.1 ∧ x.1 ≤ 255:=by simp [maySay,kLo,kHi]
theorem may65 {x:WdT}:maySay 65 x ↔ x.2 = [] ∧ 0 ≤ x.1 ∧ x.1 ≤ 65535:=by simp [maySay,kLo,kHi]
theorem has_forms {e:EvT} (h:hasLn e = true):Forms e:=by
  obtain ⟨f,w,hf,hw,rfl⟩:=of_has h
  simp only [names,List.mem_cons,List.not_mem_nil,or_false] at hf
  unfold Forms
  rcases hf with h | h | h | h | h | h | h | h | h | h | h | h | h <;> subst h
  · obtain ⟨x,y,rfl,a,b⟩:=w2 hw
    exact .inl ⟨x.1,1 + y.1,(may73.1 a).2,by have:=(may82.1 b).2;omega,rfl⟩
  · obtain ⟨x,y,rfl,a,b⟩:=w2 hw
    exact .inr (.inl ⟨x.1,1 + y.1,(may73.1 a).2,by have:=(may82.1 b).2;omega,rfl⟩)
  · obtain ⟨x,rfl,a⟩:=w1 hw
    exact .inr (.inr (.inl ⟨x.1,(may73.1 a).2,rfl⟩))
  · obtain ⟨x,rfl,a⟩:=w1 hw
    exact .inr (.inr (.inr (.inl ⟨x.1,(may73.1 a).2,rfl⟩)))
  · obtain ⟨x,rfl,a⟩:=w1 hw
    exact .inr (.inr (.inr (.inr (.inl ⟨x.1,(may73.1 a).2,rfl⟩))))
  · obtain ⟨x,rfl,a⟩:=w1 hw
    have ha:=may84.1 a
    exact .inr (.inr (.inr (.inr (.inr (.inl ⟨x.2,ha.2,by rw [show x = (0,x.2) from Prod.ext ha.1 rfl];rfl⟩)))))
  · obtain ⟨x,y,rfl,a,b⟩:=w2 hw
    exact .inr (.inr (.inr (.inr (.inr (.inr (.inl ⟨x.1,y.2,(may73.1 a).2,(may75.1 b).2.1,(may75.1 b).2.2,rfl⟩))))))
  · obtain ⟨x,y,z,rfl,a,b,c⟩:=w3 hw
    exact .inr (.inr (.inr (.inr (.inr (.inr (.inr (.inl ⟨x.1,y.1,z.1,(may73.1 a).2,(may87.1 b).2,(may87.1 c).2,rfl⟩)))))))
  · obtain ⟨x,rfl,a⟩:=w1 hw
    exact .inr (.inr (.inr (.inr (.inr (.inr (.inr (.inr (.inl ⟨x.1,(may78.1 a).2,rfl⟩))))))))
  · obtain ⟨x,rfl,a⟩:=w1 hw
    exact .inr (.inr (.inr (.inr (.inr (.inr (.inr (.inr (.inr (.inl ⟨x.1,(may80.1 a).2,rfl⟩)))))))))
  · obtain ⟨x,y,rfl,a,b⟩:=w2 hw
    exact .inr (.inr (.inr (.inr (.inr (.inr (.inr (.inr (.inr (.inr (.inl ⟨x.1,y.1,(may80.1 a).2,(may88.1 b).2,rfl⟩))))))))))
  · obtain ⟨x,y,rfl,a,b⟩:=w2 hw
    exact .inr (.inr (.inr (.inr (.inr (.inr (.inr (.inr (.inr (.inr (.inr (.inl ⟨x.1,y.1,(may73.1 a).2,(may65.1 b).2,rfl⟩)))))))))))
  · obtain ⟨x,y,z,u,rfl,a,b,c,d⟩:=w4 hw
    exact .inr (.inr (.inr (.inr (.inr (.inr (.inr (.inr (.inr (.inr (.inr (.inr ⟨x.1,y.1,z.1,u.2,(may73.1 a).2,(may65.1 b).2,(may83.1 c).2,(may84.1 d).2,rfl⟩)))))))))))
theorem forms_has {e:EvT} (h:Forms e):hasLn e = true:=by
  unfold Forms at h
  rcases h with ⟨id,r,a,b,rfl⟩ | ⟨id,r,a,b,rfl⟩ | ⟨id,a,rfl⟩ | ⟨id,a,rfl⟩ | ⟨id,a,rfl⟩ | ⟨b,a,rfl⟩ | ⟨id,t,a,b,c,rfl⟩ | ⟨id,r,c,a,b,d,rfl⟩ | ⟨n,a,rfl⟩ | ⟨n,a,rfl⟩ | ⟨n,m,a,b,rfl⟩ | ⟨id,n,a,b,rfl⟩ | ⟨id,n,m,b,a,c,d,g,rfl⟩
  · have:=(has_of (f:=nmJ) (w:=[(id,[]),(r - 1,[])]) (by decide) ⟨may73.2 ⟨rfl,a⟩,may82.2 ⟨rfl,by simp only;omega⟩,trivial⟩).1
    rwa [show evS nmJ [(id,[]),(r - 1,[])] = (1,id,0,0,r,d0,[]) from by simp [evS,wn];omega] at this
  · have:=(has_of (f:=nmR) (w:=[(id,[]),(r - 1,[])]) (by decide) ⟨may73.2 ⟨rfl,a⟩,may82.2 ⟨rfl,by simp only;omega⟩,trivial⟩).1
    rwa [show evS nmR [(id,[]),(r - 1,[])] = (3,id,0,0,r,d0,[]) from by simp [evS,wn,nmJ,nmR];omega] at this
  · exact (has_of (f:=nmL) (w:=[(id,[])]) (by decide) ⟨may73.2 ⟨rfl,a⟩,trivial⟩).1
  · exact (has_of (f:=nmA) (w:=[(id,[])]) (by decide) ⟨may73.2 ⟨rfl,a⟩,trivial⟩).1
  · exact (has_of (f:=nmF) (w:=[(id,[])]) (by decide) ⟨may73.2 ⟨rfl,a⟩,trivial⟩).1
  · exact (has_of (f:=nmO) (w:=[(0,b)]) (by decide) ⟨may84.2 ⟨rfl,a⟩,trivial⟩).1
  · exact (has_of (f:=nmK) (w:=[(id,[]),(0,t)]) (by decide) ⟨may73.2 ⟨rfl,a⟩,may75.2 ⟨rfl,b,c⟩,trivial⟩).1
  · exact (has_of (f:=nmS) (w:=[(id,[]),(r,[]),(c,[])]) (by decide) ⟨may73.2 ⟨rfl,a⟩,may87.2 ⟨rfl,b⟩,may87.2 ⟨rfl,d⟩,trivial⟩).1
  · exact (has_of (f:=nmT) (w:=[(n,[])]) (by decide) ⟨may78.2 ⟨rfl,a⟩,trivial⟩).1
  · exact (has_of (f:=nmD) (w:=[(n,[])]) (by decide) ⟨may80.2 ⟨rfl,a⟩,trivial⟩).1
  · exact (has_of (f:=nmP) (w:=[(n,[]),(m,[])]) (by decide) ⟨may80.2 ⟨rfl,a⟩,may88.2 ⟨rfl,b⟩,trivial⟩).1
  · exact (has_of (f:=nmM) (w:=[(id,[]),(n,[])]) (by decide) ⟨may73.2 ⟨rfl,a⟩,may65.2 ⟨rfl,b⟩,trivial⟩).1
  · exact (has_of (f:=nmG) (w:=[(id,[]),(n,[]),(m,[]),(0,b)]) (by decide) ⟨may73.2 ⟨rfl,a⟩,may65.2 ⟨rfl,c⟩,may83.2 ⟨rfl,d⟩,may84.2 ⟨rfl,g⟩,trivial⟩).1
end Go.SH
namespace Go.SH
open Lib (decDigits)
theorem dgt {n:Int} (h0:0 ≤ n) (h1:n ≤ 1073741824):orielref12_Digits n = some (itS n) ∧ (itS n).length ≤ 20:=by
  constructor
  · rw [Digits_eq h0 (by omega),it_pos h0]
  · rw [it_pos h0]
    have:=nd_le (u:=n.toNat) (k:=20) (by omega) (by omega)
    omega
theorem req_true {α:Type} {x:Option α}:req True x = x:=if_pos trivial
abbrev RV:=List UInt8 × Bool × Int × Int × Int × Int × Int × List UInt8 × Int × Int × List UInt8
def rvE (a:EvT) (v:RV):EvT:=(a.1,v.2.2.1,v.2.2.2.1,v.2.2.2.2.1,v.2.2.2.2.2.1,(v.2.2.2.2.2.2.1,v.2.2.2.2.2.2.2.1,v.2.2.2.2.2.2.2.2.1,v.2.2.2.2.2.2.2.2.2.1),v.2.2.2.2.2.2.2.2.2.2)
theorem fin_eq (a:EvT) (v:RV):((bif !v.2.1 then some true else
      (orielref34_Same a (rvE a v)).bind fun x132=>bif !x132 then some true else some false:Option Bool).bind fun x133=>bif x133 then some (([]:List UInt8),false) else some (v.1,true))
    = some (if v.2.1 = true ∧ a = rvE a v then (v.1,true) else ([],false)):=by
  rw [Same_eq]
  cases v.2.1 with
  | false=>simp
  | true=>by_cases h:a = rvE a v
          · rw [decide_eq_true h,if_pos ⟨rfl,h⟩];rfl
          · rw [decide_eq_false h,if_neg fun k=>h k.2];rfl
theorem rP_close {a:EvT} {v:RV} (h1:v.2.1 = true → a = rvE a v → Forms a ∧ v.1 = wordsS a) (h2:Forms a → v.2.1 = true ∧ a = rvE a v) :
    some (if v.2.1 = true ∧ a = rvE a v then (v.1,true) else ([],false)) = some (if hasLn a = true then (wordsS a,true) else ([],false)):=by
  by_cases h:v.2.1 = true ∧ a = rvE a v
  · obtain ⟨f,e⟩:=h1 h.1 h.2
    rw [if_pos h,if_pos (forms_has f),e]
  · rw [if_neg h,if_neg fun k=>h (h2 (has_forms k))]
theorem idB (n:Int):(bif decide (n ≥ 1) then some (decide (n ≤ 8)) else some false:Option Bool) = some (decide (1 ≤ n ∧ n ≤ 8)):=by
  by_cases h:n ≥ 1
  · rw [dec_t h];simp [h]
  · rw [dec_f h];simp [h]
theorem rP1 (id n m role:Int) (d:DdT) (b:List UInt8):orielref34_Print (1,id,n,m,role,d,b) = some (if hasLn (1,id,n,m,role,d,b) = true then (wordsS (1,id,n,m,role,d,b),true) else ([],false)):=by
  unfold orielref34_Print
  refine bind_eq (idB _) ?_
  by_cases hid:1 ≤ id ∧ id ≤ 8
  · obtain ⟨dg,dl⟩:=dgt (n:=id) (by omega) (by omega)
    by_cases r1:role = 1
    · subst r1
      refine bind_eq (x:=(nmJ ++ 32 :: (itS id ++ [32,119,97,116,99,104]),true,id,0,0,1,0,[],0,0,[])) ?_ ?_
      · simp (disch:=(first | omega | (simp;omega))) [boolO,req_pos,req_true,nmJ,nmR,nmL,nmA,nmF,nmO,nmK,nmS,nmT,nmD,nmP,nmM,nmG,rlS,wHub,wView,hid,dg]
      · refine (fin_eq (1,id,n,m,1,d,b) _).trans (rP_close ?_ ?_)
        · intro _ h
          rw [h]
          exact ⟨.inl ⟨id,1,hid,.inl rfl,rfl⟩,by simp [wordsS,rvE,rlS]⟩
        · intro h
          unfold Forms at h
          simp [d0] at h
          obtain ⟨i,_,rfl,h⟩:=h
          simp [rvE, *]
    · by_cases r2:role = 2
      · subst r2
        refine bind_eq (x:=(nmJ ++ 32 :: (itS id ++ [32,119,114,105,116,101]),true,id,0,0,2,0,[],0,0,[])) ?_ ?_
        · simp (disch:=(first | omega | (simp;omega))) [boolO,req_pos,req_true,nmJ,nmR,nmL,nmA,nmF,nmO,nmK,nmS,nmT,nmD,nmP,nmM,nmG,rlS,wHub,wView,hid,dg]
        · refine (fin_eq (1,id,n,m,2,d,b) _).trans (rP_close ?_ ?_)
          · intro _ h
            rw [h]
            exact ⟨.inl ⟨id,2,hid,.inr rfl,rfl⟩,by simp [wordsS,rvE,rlS]⟩
          · intro h
            unfold Forms at h
            simp [d0] at h
            obtain ⟨i,_,rfl,h⟩:=h
            simp [rvE, *]
      · have e1:(role == 1) = false:=beq_false_of_ne r1
        have e2:(role == 2) = false:=beq_false_of_ne r2
        refine bind_eq (x:=(nmJ ++ 32 :: (itS id ++ [32,119,114,105,116,101]),false,id,0,0,role,0,[],0,0,[])) ?_ ?_
        · simp (disch:=(first | omega | (simp;omega))) [boolO,req_pos,req_true,nmJ,nmR,nmL,nmA,nmF,nmO,nmK,nmS,nmT,nmD,nmP,nmM,nmG,rlS,wHub,wView,hid,dg,e1,e2]
        · refine (fin_eq (1,id,n,m,role,d,b) _).trans (rP_close ?_ ?_)
          · intro h;simp at h
          · intro h
            unfold Forms at h
            simp [d0,idOk] at h
            omega
  · by_cases r1:role = 1
    · subst r1
      refine bind_eq (x:=([106,111,105,110,32] ++ [32,119,97,116,99,104],false,id,0,0,1,0,[],0,0,[])) ?_ ?_
      · simp (disch:=(first | omega | (simp;omega))) [boolO,req_pos,req_true,nmJ,nmR,nmL,nmA,nmF,nmO,nmK,nmS,nmT,nmD,nmP,nmM,nmG,rlS,wHub,wView,hid]
      · refine (fin_eq (1,id,n,m,1,d,b) _).trans (rP_close ?_ ?_)
        · intro h;simp at h
        · intro h
          unfold Forms at h
          simp [d0,idOk] at h
          omega
    · have e1:(role == 1) = false:=beq_false_of_ne r1
      refine bind_eq (x:=([106,111,105,110,32] ++ [32,119,114,105,116,101],false,id,0,0,role,0,[],0,0,[])) ?_ ?_
      · simp (disch:=(first | omega | (simp;omega))) [boolO,req_pos,req_true,nmJ,nmR,nmL,nmA,nmF,nmO,nmK,nmS,nmT,nmD,nmP,nmM,nmG,rlS,wHub,wView,hid,e1]
      · refine (fin_eq (1,id,n,m,role,d,b) _).trans (rP_close ?_ ?_)
        · intro h;simp at h
        · intro h
          unfold Forms at h
          simp [d0,idOk] at h
          omega
theorem rP3 (id n m role:Int) (d:DdT) (b:List UInt8):orielref34_Print (3,id,n,m,role,d,b) = some (if hasLn (3,id,n,m,role,d,b) = true then (wordsS (3,id,n,m,role,d,b),true) else ([],false)):=by
  unfold orielref34_Print
  refine bind_eq (idB _) ?_
  by_cases hid:1 ≤ id ∧ id ≤ 8
  · obtain ⟨dg,dl⟩:=dgt (n:=id) (by omega) (by omega)
    by_cases r1:role = 1
    · subst r1
      refine bind_eq (x:=(nmR ++ 32 :: (itS id ++ [32,119,97,116,99,104]),true,id,0,0,1,0,[],0,0,[])) ?_ ?_
      · simp (disch:=(first | omega | (simp;omega))) [boolO,req_pos,req_true,nmJ,nmR,nmL,nmA,nmF,nmO,nmK,nmS,nmT,nmD,nmP,nmM,nmG,rlS,wHub,wView,hid,dg]
      · refine (fin_eq (3,id,n,m,1,d,b) _).trans (rP_close ?_ ?_)
        · intro _ h
          rw [h]
          exact ⟨.inr (.inl ⟨id,1,hid,.inl rfl,rfl⟩),by simp [wordsS,rvE,rlS]⟩
        · intro h
          unfold Forms at h
          simp [d0] at h
          obtain ⟨i,_,rfl,h⟩:=h
          simp [rvE, *]
    · by_cases r2:role = 2
      · subst r2
        refine bind_eq (x:=(nmR ++ 32 :: (itS id ++ [32,119,114,105,116,101]),true,id,0,0,2,0,[],0,0,[])) ?_ ?_
        · simp (disch:=(first | omega | (simp;omega))) [boolO,req_pos,req_true,nmJ,nmR,nmL,nmA,nmF,nmO,nmK,nmS,nmT,nmD,nmP,nmM,nmG,rlS,wHub,wView,hid,dg]
        · refine (fin_eq (3,id,n,m,2,d,b) _).trans (rP_close ?_ ?_)
          · intro _ h
            rw [h]
            exact ⟨.inr (.inl ⟨id,2,hid,.inr rfl,rfl⟩),by simp [wordsS,rvE,rlS]⟩
          · intro h
            unfold Forms at h
            simp [d0] at h
            obtain ⟨i,_,rfl,h⟩:=h
            simp [rvE, *]
      · have e1:(role == 1) = false:=beq_false_of_ne r1
        have e2:(role == 2) = false:=beq_false_of_ne r2
        refine bind_eq (x:=(nmR ++ 32 :: (itS id ++ [32,119,114,105,116,101]),false,id,0,0,role,0,[],0,0,[])) ?_ ?_
        · simp (disch:=(first | omega | (simp;omega))) [boolO,req_pos,req_true,nmJ,nmR,nmL,nmA,nmF,nmO,nmK,nmS,nmT,nmD,nmP,nmM,nmG,rlS,wHub,wView,hid,dg,e1,e2]
        · refine (fin_eq (3,id,n,m,role,d,b) _).trans (rP_close ?_ ?_)
          · intro h;simp at h
          · intro h
            unfold Forms at h
            simp [d0,idOk] at h
            omega
  · by_cases r1:role = 1
    · subst r1
      refine bind_eq (x:=([114,111,108,101,32] ++ [32,119,97,116,99,104],false,id,0,0,1,0,[],0,0,[])) ?_ ?_
      · simp (disch:=(first | omega | (simp;omega))) [boolO,req_pos,req_true,nmJ,nmR,nmL,nmA,nmF,nmO,nmK,nmS,nmT,nmD,nmP,nmM,nmG,rlS,wHub,wView,hid]
      · refine (fin_eq (3,id,n,m,1,d,b) _).trans (rP_close ?_ ?_)
        · intro h;simp at h
        · intro h
          unfold Forms at h
          simp [d0,idOk] at h
          omega
    · have e1:(role == 1) = false:=beq_false_of_ne r1
      refine bind_eq (x:=([114,111,108,101,32] ++ [32,119,114,105,116,101],false,id,0,0,role,0,[],0,0,[])) ?_ ?_
      · simp (disch:=(first | omega | (simp;omega))) [boolO,req_pos,req_true,nmJ,nmR,nmL,nmA,nmF,nmO,nmK,nmS,nmT,nmD,nmP,nmM,nmG,rlS,wHub,wView,hid,e1]
      · refine (fin_eq (3,id,n,m,role,d,b) _).trans (rP_close ?_ ?_)
        · intro h;simp at h
        · intro h
          unfold Forms at h
          simp [d0,idOk] at h
          omega
theorem rP2 (id n m role:Int) (d:DdT) (b:List UInt8):orielref34_Print (2,id,n,m,role,d,b) = some (if hasLn (2,id,n,m,role,d,b) = true then (wordsS (2,id,n,m,role,d,b),true) else ([],false)):=by
  unfold orielref34_Print
  refine bind_eq (idB _) ?_
  by_cases hid:1 ≤ id ∧ id ≤ 8
  · obtain ⟨dg,dl⟩:=dgt (n:=id) (by omega) (by omega)
    refine bind_eq (x:=(nmL ++ 32 :: itS id,true,id,0,0,0,0,[],0,0,[])) ?_ ?_
    · simp (disch:=(first | omega | (simp;omega))) [boolO,req_pos,req_true,nmJ,nmR,nmL,nmA,nmF,nmO,nmK,nmS,nmT,nmD,nmP,nmM,nmG,rlS,wHub,wView,hid,dg]
    · refine (fin_eq (2,id,n,m,role,d,b) _).trans (rP_close ?_ ?_)
      · intro _ h
        rw [h]
        exact ⟨.inr (.inr (.inl ⟨id,hid,rfl⟩)),by simp [wordsS,rvE,rlS]⟩
      · intro h
        unfold Forms at h
        simp [d0] at h
        obtain ⟨i,_,rfl,h⟩:=h
        simp [rvE, *]
  · skip
    refine bind_eq (x:=([108,101,97,118,101,32],false,id,0,0,0,0,[],0,0,[])) ?_ ?_
    · simp (disch:=(first | omega | (simp;omega))) [boolO,req_pos,req_true,nmJ,nmR,nmL,nmA,nmF,nmO,nmK,nmS,nmT,nmD,nmP,nmM,nmG,rlS,wHub,wView,hid]
    · refine (fin_eq (2,id,n,m,role,d,b) _).trans (rP_close ?_ ?_)
      · intro h;simp at h
      · intro h
        unfold Forms at h
        simp [d0,idOk] at h
        omega
theorem rP4 (id n m role:Int) (d:DdT) (b:List UInt8) (hb:b.length < 40000000000000):orielref34_Print (4,id,n,m,role,d,b) = some (if hasLn (4,id,n,m,role,d,b) = true then (wordsS (4,id,n,m,role,d,b),true) else ([],false)):=by
  unfold orielref34_Print
  refine bind_eq (idB _) ?_
  have q:=rQuoted_eq hb
  have ql:=quot_len b
  by_cases h1:b.length ≤ 1000
  · have h1i:(b.length:Int) ≤ 1000:=by omega
    refine bind_eq (x:=(nmO ++ 32 :: quotS b,true,0,0,0,0,0,[],0,0,b)) ?_ ?_
    · simp (disch:=(first | omega | (simp;omega))) [boolO,req_pos,req_true,nmJ,nmR,nmL,nmA,nmF,nmO,nmK,nmS,nmT,nmD,nmP,nmM,nmG,rlS,wHub,wView,q,h1,h1i]
    · refine (fin_eq (4,id,n,m,role,d,b) _).trans (rP_close ?_ ?_)
      · intro _ h
        rw [h]
        exact ⟨.inr (.inr (.inr (.inr (.inr (.inl ⟨b,h1,rfl⟩))))),by simp [wordsS,rvE,rlS]⟩
      · intro h
        unfold Forms at h
        simp [d0] at h
        obtain ⟨i,_,rfl,h⟩:=h
        simp [rvE, *]
  · have h1i:¬ (b.length:Int) ≤ 1000:=by omega
    refine bind_eq (x:=(nmO ++ 32 :: quotS b,false,0,0,0,0,0,[],0,0,b)) ?_ ?_
    · simp (disch:=(first | omega | (simp;omega))) [boolO,req_pos,req_true,nmJ,nmR,nmL,nmA,nmF,nmO,nmK,nmS,nmT,nmD,nmP,nmM,nmG,rlS,wHub,wView,q,h1,h1i]
    · refine (fin_eq (4,id,n,m,role,d,b) _).trans (rP_close ?_ ?_)
      · intro h;simp at h
      · intro h
        unfold Forms at h
        simp [d0,idOk] at h
        obtain ⟨b2,h0,_,_,_,_,_,rfl⟩:=h
        omega
theorem rP6 (id n m role:Int) (d:DdT) (b:List UInt8):orielref34_Print (6,id,n,m,role,d,b) = some (if hasLn (6,id,n,m,role,d,b) = true then (wordsS (6,id,n,m,role,d,b),true) else ([],false)):=by
  unfold orielref34_Print
  refine bind_eq (idB _) ?_
  by_cases hn:1 ≤ n ∧ n ≤ 10000
  · obtain ⟨dg,dl⟩:=dgt (n:=n) (by omega) (by omega)
    have hn0:0 ≤ n:=by omega
    refine bind_eq (x:=(nmT ++ 32 :: itS n,true,0,n,0,0,0,[],0,0,[])) ?_ ?_
    · simp (disch:=(first | omega | (simp;omega))) [boolO,req_pos,req_true,nmJ,nmR,nmL,nmA,nmF,nmO,nmK,nmS,nmT,nmD,nmP,nmM,nmG,rlS,wHub,wView,hn,hn0,dg]
    · refine (fin_eq (6,id,n,m,role,d,b) _).trans (rP_close ?_ ?_)
      · intro _ h
        rw [h]
        exact ⟨.inr (.inr (.inr (.inr (.inr (.inr (.inr (.inr (.inl ⟨n,hn,rfl⟩)))))))),by simp [wordsS,rvE,rlS]⟩
      · intro h
        unfold Forms at h
        simp [d0] at h
        obtain ⟨i,_,rfl,h⟩:=h
        simp [rvE, *]
  · by_cases h1:1 ≤ n
    · have h2:¬ n ≤ 10000:=by omega
      have hn0:0 ≤ n:=by omega
      refine bind_eq (x:=([116,105,99,107,32],false,0,n,0,0,0,[],0,0,[])) ?_ ?_
      · simp (disch:=(first | omega | (simp;omega))) [boolO,req_pos,req_true,nmJ,nmR,nmL,nmA,nmF,nmO,nmK,nmS,nmT,nmD,nmP,nmM,nmG,rlS,wHub,wView,h1,h2,hn0]
      · refine (fin_eq (6,id,n,m,role,d,b) _).trans (rP_close ?_ ?_)
        · intro h;simp at h
        · intro h
          unfold Forms at h
          simp [d0,idOk] at h
          omega
    · by_cases hn0:0 ≤ n
      · skip
        refine bind_eq (x:=([116,105,99,107,32],false,0,n,0,0,0,[],0,0,[])) ?_ ?_
        · simp (disch:=(first | omega | (simp;omega))) [boolO,req_pos,req_true,nmJ,nmR,nmL,nmA,nmF,nmO,nmK,nmS,nmT,nmD,nmP,nmM,nmG,rlS,wHub,wView,h1,hn0]
        · refine (fin_eq (6,id,n,m,role,d,b) _).trans (rP_close ?_ ?_)
          · intro h;simp at h
          · intro h
            unfold Forms at h
            simp [d0,idOk] at h
            omega
      · skip
        refine bind_eq (x:=([116,105,99,107,32],false,0,n,0,0,0,[],0,0,[])) ?_ ?_
        · simp (disch:=(first | omega | (simp;omega))) [boolO,req_pos,req_true,nmJ,nmR,nmL,nmA,nmF,nmO,nmK,nmS,nmT,nmD,nmP,nmM,nmG,rlS,wHub,wView,h1,hn0]
        · refine (fin_eq (6,id,n,m,role,d,b) _).trans (rP_close ?_ ?_)
          · intro h;simp at h
          · intro h
            unfold Forms at h
            simp [d0,idOk] at h
            omega
theorem rP7 (id n m role:Int) (d:DdT) (b:List UInt8):orielref34_Print (7,id,n,m,role,d,b) = some (if hasLn (7,id,n,m,role,d,b) = true then (wordsS (7,id,n,m,role,d,b),true) else ([],false)):=by
  unfold orielref34_Print
  refine bind_eq (idB _) ?_
  by_cases h0:0 ≤ n
  · by_cases h1:n ≤ 1073741824
    · obtain ⟨dg,dl⟩:=dgt (n:=n) h0 h1
      refine bind_eq (x:=(nmD ++ 32 :: itS n,true,0,n,0,0,0,[],0,0,[])) ?_ ?_
      · simp (disch:=(first | omega | (simp;omega))) [boolO,req_pos,req_true,nmJ,nmR,nmL,nmA,nmF,nmO,nmK,nmS,nmT,nmD,nmP,nmM,nmG,rlS,wHub,wView,h0,h1,dg,lit_b92a4]
      · refine (fin_eq (7,id,n,m,role,d,b) _).trans (rP_close ?_ ?_)
        · intro _ h
          rw [h]
          exact ⟨.inr (.inr (.inr (.inr (.inr (.inr (.inr (.inr (.inr (.inl ⟨n,⟨h0,h1⟩,rfl⟩))))))))),by simp [wordsS,rvE,rlS]⟩
        · intro h
          unfold Forms at h
          simp [d0] at h
          obtain ⟨i,_,rfl,h⟩:=h
          simp [rvE, *]
    · skip
      refine bind_eq (x:=(lit_b92a4,false,0,n,0,0,0,[],0,0,[])) ?_ ?_
      · simp (disch:=(first | omega | (simp;omega))) [boolO,req_pos,req_true,nmJ,nmR,nmL,nmA,nmF,nmO,nmK,nmS,nmT,nmD,nmP,nmM,nmG,rlS,wHub,wView,h0,h1]
      · refine (fin_eq (7,id,n,m,role,d,b) _).trans (rP_close ?_ ?_)
        · intro h;simp at h
        · intro h
          unfold Forms at h
          simp [d0,idOk] at h
          omega
  · skip
    refine bind_eq (x:=(lit_b92a4,false,0,n,0,0,0,[],0,0,[])) ?_ ?_
    · simp (disch:=(first | omega | (simp;omega))) [boolO,req_pos,req_true,nmJ,nmR,nmL,nmA,nmF,nmO,nmK,nmS,nmT,nmD,nmP,nmM,nmG,rlS,wHub,wView,h0]
    · refine (fin_eq (7,id,n,m,role,d,b) _).trans (rP_close ?_ ?_)
      · intro h;simp at h
      · intro h
        unfold Forms at h
        simp [d0,idOk] at h
        omega
theorem rP8 (id n m role:Int) (d:DdT) (b:List UInt8):orielref34_Print (8,id,n,m,role,d,b) = some (if hasLn (8,id,n,m,role,d,b) = true then (wordsS (8,id,n,m,role,d,b),true) else ([],false)):=by
  unfold orielref34_Print
  refine bind_eq (idB _) ?_
  by_cases h0:0 ≤ n
  · by_cases h1:n ≤ 1073741824
    · obtain ⟨dg,dl⟩:=dgt (n:=n) h0 h1
      by_cases h2:1 ≤ m
      · by_cases h3:m ≤ 255
        · obtain ⟨dg2,dl2⟩:=dgt (n:=m) (by omega) (by omega)
          refine bind_eq (x:=(nmP ++ 32 :: (itS n ++ 32 :: itS m),true,0,n,m,0,0,[],0,0,[])) ?_ ?_
          · simp (disch:=(first | omega | (simp;omega))) [boolO,req_pos,req_true,nmJ,nmR,nmL,nmA,nmF,nmO,nmK,nmS,nmT,nmD,nmP,nmM,nmG,rlS,wHub,wView,h0,h1,h2,h3,dg,dg2]
          · refine (fin_eq (8,id,n,m,role,d,b) _).trans (rP_close ?_ ?_)
            · intro _ h
              rw [h]
              exact ⟨.inr (.inr (.inr (.inr (.inr (.inr (.inr (.inr (.inr (.inr (.inl ⟨n,m,⟨h0,h1⟩,⟨h2,h3⟩,rfl⟩)))))))))),by simp [wordsS,rvE,rlS]⟩
            · intro h
              unfold Forms at h
              simp [d0] at h
              obtain ⟨i,_,j,_,hh,rfl,rfl,h⟩:=h
              simp [rvE, *]
        · skip
          refine bind_eq (x:=([115,112,111,105,108,32],false,0,n,m,0,0,[],0,0,[])) ?_ ?_
          · simp (disch:=(first | omega | (simp;omega))) [boolO,req_pos,req_true,nmJ,nmR,nmL,nmA,nmF,nmO,nmK,nmS,nmT,nmD,nmP,nmM,nmG,rlS,wHub,wView,h0,h1,h2,h3]
          · refine (fin_eq (8,id,n,m,role,d,b) _).trans (rP_close ?_ ?_)
            · intro h;simp at h
            · intro h
              unfold Forms at h
              simp [d0,idOk] at h
              omega
      · skip
        refine bind_eq (x:=([115,112,111,105,108,32],false,0,n,m,0,0,[],0,0,[])) ?_ ?_
        · simp (disch:=(first | omega | (simp;omega))) [boolO,req_pos,req_true,nmJ,nmR,nmL,nmA,nmF,nmO,nmK,nmS,nmT,nmD,nmP,nmM,nmG,rlS,wHub,wView,h0,h1,h2]
        · refine (fin_eq (8,id,n,m,role,d,b) _).trans (rP_close ?_ ?_)
          · intro h;simp at h
          · intro h
            unfold Forms at h
            simp [d0,idOk] at h
            omega
    · skip
      refine bind_eq (x:=([115,112,111,105,108,32],false,0,n,m,0,0,[],0,0,[])) ?_ ?_
      · simp (disch:=(first | omega | (simp;omega))) [boolO,req_pos,req_true,nmJ,nmR,nmL,nmA,nmF,nmO,nmK,nmS,nmT,nmD,nmP,nmM,nmG,rlS,wHub,wView,h0,h1]
      · refine (fin_eq (8,id,n,m,role,d,b) _).trans (rP_close ?_ ?_)
        · intro h;simp at h
        · intro h
          unfold Forms at h
          simp [d0,idOk] at h
          omega
  · skip
    refine bind_eq (x:=([115,112,111,105,108,32],false,0,n,m,0,0,[],0,0,[])) ?_ ?_
    · simp (disch:=(first | omega | (simp;omega))) [boolO,req_pos,req_true,nmJ,nmR,nmL,nmA,nmF,nmO,nmK,nmS,nmT,nmD,nmP,nmM,nmG,rlS,wHub,wView,h0]
    · refine (fin_eq (8,id,n,m,role,d,b) _).trans (rP_close ?_ ?_)
      · intro h;simp at h
      · intro h
        unfold Forms at h
        simp [d0,idOk] at h
        omega
theorem rP9 (id n m role:Int) (d:DdT) (b:List UInt8):orielref34_Print (9,id,n,m,role,d,b) = some (if hasLn (9,id,n,m,role,d,b) = true then (wordsS (9,id,n,m,role,d,b),true) else ([],false)):=by
  unfold orielref34_Print
  refine bind_eq (idB _) ?_
  by_cases hid:1 ≤ id ∧ id ≤ 8
  · obtain ⟨dg,dl⟩:=dgt (n:=id) (by omega) (by omega)
    by_cases h0:0 ≤ n
    · by_cases h1:n ≤ 65535
      · obtain ⟨dg2,dl2⟩:=dgt (n:=n) (by omega) (by omega)
        refine bind_eq (x:=(nmM ++ 32 :: (itS id ++ 32 :: itS n),true,id,n,0,0,0,[],0,0,[])) ?_ ?_
        · simp (disch:=(first | omega | (simp;omega))) [boolO,req_pos,req_true,nmJ,nmR,nmL,nmA,nmF,nmO,nmK,nmS,nmT,nmD,nmP,nmM,nmG,rlS,wHub,wView,hid,h0,h1,dg,dg2]
        · refine (fin_eq (9,id,n,m,role,d,b) _).trans (rP_close ?_ ?_)
          · intro _ h
            rw [h]
            exact ⟨.inr (.inr (.inr (.inr (.inr (.inr (.inr (.inr (.inr (.inr (.inr (.inl ⟨id,n,hid,⟨h0,h1⟩,rfl⟩))))))))))),by simp [wordsS,rvE,rlS]⟩
          · intro h
            unfold Forms at h
            simp [d0] at h
            obtain ⟨i,_,j,_,rfl,rfl,h⟩:=h
            simp [rvE, *]
      · skip
        refine bind_eq (x:=([],false,id,n,0,0,0,[],0,0,[])) ?_ ?_
        · simp (disch:=(first | omega | (simp;omega))) [boolO,req_pos,req_true,nmJ,nmR,nmL,nmA,nmF,nmO,nmK,nmS,nmT,nmD,nmP,nmM,nmG,rlS,wHub,wView,hid,h0,h1]
        · refine (fin_eq (9,id,n,m,role,d,b) _).trans (rP_close ?_ ?_)
          · intro h;simp at h
          · intro h
            unfold Forms at h
            simp [d0,idOk] at h
            omega
    · skip
      refine bind_eq (x:=([],false,id,n,0,0,0,[],0,0,[])) ?_ ?_
      · simp (disch:=(first | omega | (simp;omega))) [boolO,req_pos,req_true,nmJ,nmR,nmL,nmA,nmF,nmO,nmK,nmS,nmT,nmD,nmP,nmM,nmG,rlS,wHub,wView,hid,h0]
      · refine (fin_eq (9,id,n,m,role,d,b) _).trans (rP_close ?_ ?_)
        · intro h;simp at h
        · intro h
          unfold Forms at h
          simp [d0,idOk] at h
          omega
  · skip
    refine bind_eq (x:=([],false,id,n,0,0,0,[],0,0,[])) ?_ ?_
    · simp (disch:=(first | omega | (simp;omega))) [boolO,req_pos,req_true,nmJ,nmR,nmL,nmA,nmF,nmO,nmK,nmS,nmT,nmD,nmP,nmM,nmG,rlS,wHub,wView,hid]
    · refine (fin_eq (9,id,n,m,role,d,b) _).trans (rP_close ?_ ?_)
      · intro h;simp at h
      · intro h
        unfold Forms at h
        simp [d0,idOk] at h
        omega
theorem rP10 (id n m role:Int) (d:DdT) (b:List UInt8):orielref34_Print (10,id,n,m,role,d,b) = some (if hasLn (10,id,n,m,role,d,b) = true then (wordsS (10,id,n,m,role,d,b),true) else ([],false)):=by
  unfold orielref34_Print
  refine bind_eq (idB _) ?_
  by_cases hid:1 ≤ id ∧ id ≤ 8
  · obtain ⟨dg,dl⟩:=dgt (n:=id) (by omega) (by omega)
    by_cases h0:0 ≤ n
    · by_cases h1:n ≤ 65535
      · obtain ⟨dg2,dl2⟩:=dgt (n:=n) (by omega) (by omega)
        by_cases hb:b.length ≤ 1000
        · have q:=rQuoted_eq (b:=b) (by omega)
          have ql:=quot_len b
          have hbi:(b.length:Int) ≤ 1000:=by omega
          by_cases m0:m = 0
          · subst m0
            refine bind_eq (x:=(nmG ++ 32 :: (itS id ++ 32 :: (itS n ++ 32 :: (wHub ++ 32 :: quotS b))),true,id,n,0,0,0,[],0,0,b)) ?_ ?_
            · simp (disch:=(first | omega | (simp;omega))) [boolO,req_pos,req_true,nmJ,nmR,nmL,nmA,nmF,nmO,nmK,nmS,nmT,nmD,nmP,nmM,nmG,rlS,wHub,wView,hid,h0,h1,hb,hbi,q,dg,dg2]
            · refine (fin_eq (10,id,n,0,role,d,b) _).trans (rP_close ?_ ?_)
              · intro _ h
                rw [h]
                exact ⟨.inr (.inr (.inr (.inr (.inr (.inr (.inr (.inr (.inr (.inr (.inr (.inr (⟨id,n,0,b,hid,⟨h0,h1⟩,.inl rfl,hb,rfl⟩)))))))))))),by simp [wordsS,rvE,rlS]⟩
              · intro h
                unfold Forms at h
                simp [d0] at h
                obtain ⟨i,_,j,_,x,hx,_,_,hr,hd,_⟩:=h
                simp [rvE, *]
          · by_cases m1:m = 1
            · subst m1
              refine bind_eq (x:=(nmG ++ 32 :: (itS id ++ 32 :: (itS n ++ 32 :: (wView ++ 32 :: quotS b))),true,id,n,1,0,0,[],0,0,b)) ?_ ?_
              · simp (disch:=(first | omega | (simp;omega))) [boolO,req_pos,req_true,nmJ,nmR,nmL,nmA,nmF,nmO,nmK,nmS,nmT,nmD,nmP,nmM,nmG,rlS,wHub,wView,hid,h0,h1,hb,hbi,q,dg,dg2]
              · refine (fin_eq (10,id,n,1,role,d,b) _).trans (rP_close ?_ ?_)
                · intro _ h
                  rw [h]
                  exact ⟨.inr (.inr (.inr (.inr (.inr (.inr (.inr (.inr (.inr (.inr (.inr (.inr (⟨id,n,1,b,hid,⟨h0,h1⟩,.inr rfl,hb,rfl⟩)))))))))))),by simp [wordsS,rvE,rlS]⟩
                · intro h
                  unfold Forms at h
                  simp [d0] at h
                  obtain ⟨i,_,j,_,x,hx,_,_,hr,hd,_⟩:=h
                  simp [rvE, *]
            · have e0:(m == 0) = false:=beq_false_of_ne m0
              have e1:(m == 1) = false:=beq_false_of_ne m1
              refine bind_eq (x:=(nmM ++ 32 :: (itS id ++ 32 :: itS n),false,id,n,m,0,0,[],0,0,b)) ?_ ?_
              · simp (disch:=(first | omega | (simp;omega))) [boolO,req_pos,req_true,nmJ,nmR,nmL,nmA,nmF,nmO,nmK,nmS,nmT,nmD,nmP,nmM,nmG,rlS,wHub,wView,hid,h0,h1,hb,hbi,e0,e1,dg,dg2]
              · refine (fin_eq (10,id,n,m,role,d,b) _).trans (rP_close ?_ ?_)
                · intro h;simp at h
                · intro h
                  unfold Forms at h
                  simp [d0,idOk] at h
                  omega
        · have hbi:¬ (b.length:Int) ≤ 1000:=by omega
          have ql:=quot_len b
          by_cases m0:m = 0
          · subst m0
            refine bind_eq (x:=(nmM ++ 32 :: (itS id ++ 32 :: itS n),false,id,n,0,0,0,[],0,0,b)) ?_ ?_
            · simp (disch:=(first | omega | (simp;omega))) [boolO,req_pos,req_true,nmJ,nmR,nmL,nmA,nmF,nmO,nmK,nmS,nmT,nmD,nmP,nmM,nmG,rlS,wHub,wView,hid,h0,h1,hb,hbi,dg,dg2]
            · refine (fin_eq (10,id,n,0,role,d,b) _).trans (rP_close ?_ ?_)
              · intro h;simp at h
              · intro h
                unfold Forms at h
                simp [d0,idOk] at h
                obtain ⟨i,_,j,_,x,hx,_,_,_,_,rfl⟩:=h
                omega
          · by_cases m1:m = 1
            · subst m1
              refine bind_eq (x:=(nmM ++ 32 :: (itS id ++ 32 :: itS n),false,id,n,1,0,0,[],0,0,b)) ?_ ?_
              · simp (disch:=(first | omega | (simp;omega))) [boolO,req_pos,req_true,nmJ,nmR,nmL,nmA,nmF,nmO,nmK,nmS,nmT,nmD,nmP,nmM,nmG,rlS,wHub,wView,hid,h0,h1,hb,hbi,dg,dg2]
              · refine (fin_eq (10,id,n,1,role,d,b) _).trans (rP_close ?_ ?_)
                · intro h;simp at h
                · intro h
                  unfold Forms at h
                  simp [d0,idOk] at h
                  obtain ⟨i,_,j,_,x,hx,_,_,_,_,rfl⟩:=h
                  omega
            · have e0:(m == 0) = false:=beq_false_of_ne m0
              have e1:(m == 1) = false:=beq_false_of_ne m1
              refine bind_eq (x:=(nmM ++ 32 :: (itS id ++ 32 :: itS n),false,id,n,m,0,0,[],0,0,b)) ?_ ?_
              · simp (disch:=(first | omega | (simp;omega))) [boolO,req_pos,req_true,nmJ,nmR,nmL,nmA,nmF,nmO,nmK,nmS,nmT,nmD,nmP,nmM,nmG,rlS,wHub,wView,hid,h0,h1,hb,hbi,e0,e1,dg,dg2]
              · refine (fin_eq (10,id,n,m,role,d,b) _).trans (rP_close ?_ ?_)
                · intro h;simp at h
                · intro h
                  unfold Forms at h
                  simp [d0,idOk] at h
                  omega
      · skip
        refine bind_eq (x:=([],false,id,n,m,0,0,[],0,0,b)) ?_ ?_
        · simp (disch:=(first | omega | (simp;omega))) [boolO,req_pos,req_true,nmJ,nmR,nmL,nmA,nmF,nmO,nmK,nmS,nmT,nmD,nmP,nmM,nmG,rlS,wHub,wView,hid,h0,h1]
        · refine (fin_eq (10,id,n,m,role,d,b) _).trans (rP_close ?_ ?_)
          · intro h;simp at h
          · intro h
            unfold Forms at h
            simp [d0,idOk] at h
            omega
    · skip
      refine bind_eq (x:=([],false,id,n,m,0,0,[],0,0,b)) ?_ ?_
      · simp (disch:=(first | omega | (simp;omega))) [boolO,req_pos,req_true,nmJ,nmR,nmL,nmA,nmF,nmO,nmK,nmS,nmT,nmD,nmP,nmM,nmG,rlS,wHub,wView,hid,h0]
      · refine (fin_eq (10,id,n,m,role,d,b) _).trans (rP_close ?_ ?_)
        · intro h;simp at h
        · intro h
          unfold Forms at h
          simp [d0,idOk] at h
          omega
  · skip
    refine bind_eq (x:=([],false,id,n,m,0,0,[],0,0,b)) ?_ ?_
    · simp (disch:=(first | omega | (simp;omega))) [boolO,req_pos,req_true,nmJ,nmR,nmL,nmA,nmF,nmO,nmK,nmS,nmT,nmD,nmP,nmM,nmG,rlS,wHub,wView,hid]
    · refine (fin_eq (10,id,n,m,role,d,b) _).trans (rP_close ?_ ?_)
      · intro h;simp at h
      · intro h
        unfold Forms at h
        simp [d0,idOk] at h
        omega
theorem rP0 (k:Int) (h:¬ k = 1 ∧ ¬ k = 2 ∧ ¬ k = 3 ∧ ¬ k = 4 ∧ ¬ k = 5 ∧ ¬ k = 6 ∧ ¬ k = 7 ∧ ¬ k = 8 ∧ ¬ k = 9 ∧ ¬ k = 10) (id n m role:Int) (d:DdT) (b:List UInt8):orielref34_Print (k,id,n,m,role,d,b) = some (if hasLn (k,id,n,m,role,d,b) = true then (wordsS (k,id,n,m,role,d,b),true) else ([],false)):=by
  unfold orielref34_Print
  refine bind_eq (idB _) ?_
  obtain ⟨h1,h2,h3,h4,h5,h6,h7,h8,h9,h10⟩:=h
  have e1:(k == 1) = false:=beq_false_of_ne h1
  have e2:(k == 2) = false:=beq_false_of_ne h2
  have e3:(k == 3) = false:=beq_false_of_ne h3
  have e4:(k == 4) = false:=beq_false_of_ne h4
  have e5:(k == 5) = false:=beq_false_of_ne h5
  have e6:(k == 6) = false:=beq_false_of_ne h6
  have e7:(k == 7) = false:=beq_false_of_ne h7
  have e8:(k == 8) = false:=beq_false_of_ne h8
  have e9:(k == 9) = false:=beq_false_of_ne h9
  have e10:(k == 10) = false:=beq_false_of_ne h10
  refine bind_eq (x:=([],false,0,0,0,0,0,[],0,0,[])) ?_ ?_
  · simp (disch:=(first | omega | (simp;omega))) [boolO,req_pos,req_true,nmJ,nmR,nmL,nmA,nmF,nmO,nmK,nmS,nmT,nmD,nmP,nmM,nmG,rlS,wHub,wView,e1,e2,e3,e4,e5,e6,e7,e8,e9,e10]
  · refine (fin_eq (k,id,n,m,role,d,b) _).trans (rP_close ?_ ?_)
    · intro h;simp at h
    · intro h
      unfold Forms at h
      simp [d0,idOk] at h
      omega
def DOk (dk:Int) (t:List UInt8) (r c:Int):Prop:=(dk = 2 ∧ (1 ≤ r ∧ r ≤ 1000) ∧ (1 ≤ c ∧ c ≤ 1000) ∧ t = []) ∨ (dk = 1 ∧ r = 0 ∧ c = 0 ∧ 1 ≤ t.length ∧ t.length ≤ 16) ∨ (dk = 3 ∧ r = 0 ∧ c = 0 ∧ t = []) ∨ (dk = 4 ∧ r = 0 ∧ c = 0 ∧ t = [])
instance (dk:Int) (t:List UInt8) (r c:Int):Decidable (DOk dk t r c):=by unfold DOk;exact inferInstance
theorem forms5 {id n m role dk r c:Int} {t b:List UInt8}:Forms (5,id,n,m,role,(dk,t,r,c),b) ↔ idOk id ∧ (n = 0 ∧ m = 0 ∧ role = 0 ∧ b = []) ∧ DOk dk t r c:=by
  unfold Forms DOk
  constructor
  · rintro (⟨i,r,a,b,h⟩ | ⟨i,r,a,b,h⟩ | ⟨i,a,h⟩ | ⟨i,a,h⟩ | ⟨i,a,h⟩ | ⟨b,a,h⟩ | ⟨i,t,a,b,c,h⟩ | ⟨i,r,c,a,b,d,h⟩ | ⟨n,a,h⟩ | ⟨n,a,h⟩ | ⟨n,m,a,b,h⟩ | ⟨i,n,a,b,h⟩ | ⟨i,n,m,b,a,c,d,g,h⟩) <;> simp [d0] at h
    · obtain ⟨rfl,rfl,rfl,rfl,⟨rfl,rfl,rfl,rfl⟩,rfl⟩:=h;exact ⟨a,⟨rfl,rfl,rfl,rfl⟩,.inr (.inr (.inl ⟨rfl,rfl,rfl,rfl⟩))⟩
    · obtain ⟨rfl,rfl,rfl,rfl,⟨rfl,rfl,rfl,rfl⟩,rfl⟩:=h;exact ⟨a,⟨rfl,rfl,rfl,rfl⟩,.inr (.inr (.inr ⟨rfl,rfl,rfl,rfl⟩))⟩
    · obtain ⟨rfl,rfl,rfl,rfl,⟨rfl,rfl,rfl,rfl⟩,rfl⟩:=h;exact ⟨a,⟨rfl,rfl,rfl,rfl⟩,.inr (.inl ⟨rfl,rfl,rfl,b,c⟩)⟩
    · obtain ⟨rfl,rfl,rfl,rfl,⟨rfl,rfl,rfl,rfl⟩,rfl⟩:=h;exact ⟨a,⟨rfl,rfl,rfl,rfl⟩,.inl ⟨rfl,b,d,rfl⟩⟩
  · rintro ⟨a,⟨rfl,rfl,rfl,rfl⟩,h⟩
    rcases h with ⟨rfl,h1,h2,rfl⟩ | ⟨rfl,rfl,rfl,h1,h2⟩ | ⟨rfl,rfl,rfl,rfl⟩ | ⟨rfl,rfl,rfl,rfl⟩
    · exact .inr (.inr (.inr (.inr (.inr (.inr (.inr (.inl ⟨id,r,c,a,h1,h2,rfl⟩)))))))
    · exact .inr (.inr (.inr (.inr (.inr (.inr (.inl ⟨id,t,a,h1,h2,rfl⟩))))))
    · exact .inr (.inr (.inr (.inl ⟨id,a,rfl⟩)))
    · exact .inr (.inr (.inr (.inr (.inl ⟨id,a,rfl⟩))))
theorem Deed_eq (dk r c:Int) (t:List UInt8):orielref21_Deed (dk,t,r,c) = some (decide (DOk dk t r c)):=by
  unfold orielref21_Deed
  simp only [boolO,Option.bind_some]
  have hl:((t.length:Int) == 0) = decide (t = []):=by cases t <;> simp;omega
  rw [hl]
  by_cases k2:dk = 2
  · subst k2
    by_cases a1:r ≥ 1 <;> by_cases a2:r ≤ 1000 <;> by_cases a3:c ≥ 1 <;> by_cases a4:c ≤ 1000 <;> simp [DOk,a1,a2,a3,a4] <;> omega
  · have e2:(dk == 2) = false:=beq_false_of_ne k2
    by_cases hr:r = 0
    · by_cases hc:c = 0
      · subst hr;subst hc
        by_cases k1:dk = 1
        · subst k1
          by_cases b1:(t.length:Int) > 0
          · rw [dec_t b1]
            by_cases b2:(t.length:Int) ≤ 16
            · rw [dec_t b2];simp [DOk];omega
            · rw [dec_f b2];simp [DOk];omega
          · rw [dec_f b1];simp [DOk];omega
        · have e1:(dk == 1) = false:=beq_false_of_ne k1
          by_cases k3:dk = 3
          · subst k3;simp [DOk]
          · have e3:(dk == 3) = false:=beq_false_of_ne k3
            by_cases k4:dk = 4
            · subst k4;simp [DOk]
            · simp [DOk,e1,e2,e3,k1,k2,k3,k4,beq_false_of_ne k4]
      · have ec:(c != 0) = true:=bne_iff_ne.2 hc
        simp [DOk,e2,hr,hc,k2,ec]
    · have er:(r != 0) = true:=bne_iff_ne.2 hr
      simp [DOk,e2,hr,k2,er]
theorem rP5 (id n m role dk r c:Int) (t b:List UInt8):orielref34_Print (5,id,n,m,role,(dk,t,r,c),b) = some (if hasLn (5,id,n,m,role,(dk,t,r,c),b) = true then (wordsS (5,id,n,m,role,(dk,t,r,c),b),true) else ([],false)):=by
  unfold orielref34_Print
  refine bind_eq (idB _) ?_
  by_cases hid:1 ≤ id ∧ id ≤ 8
  · obtain ⟨dg,dl⟩:=dgt (n:=id) (by omega) (by omega)
    by_cases hd:DOk dk t r c
    · have hd2:=hd
      rcases hd2 with ⟨rfl,h1,h2,rfl⟩ | ⟨rfl,rfl,rfl,h1,h2⟩ | ⟨rfl,rfl,rfl,rfl⟩ | ⟨rfl,rfl,rfl,rfl⟩
      · obtain ⟨dg2,dl2⟩:=dgt (n:=r) (by omega) (by omega)
        obtain ⟨dg3,dl3⟩:=dgt (n:=c) (by omega) (by omega)
        refine bind_eq (x:=(nmS ++ 32 :: (itS id ++ 32 :: (itS r ++ 32 :: itS c)),true,id,0,0,0,2,[],r,c,[])) ?_ ?_
        · simp (disch:=(first | omega | (simp;omega))) [boolO,req_pos,req_true,nmA,nmF,nmK,nmS,orielref34_deed,hid,hd,dg,dg2,dg3]
          refine bind_eq (Deed_eq 2 r c []) ?_
          simp [hd]
        · refine (fin_eq (5,id,n,m,role,(2,[],r,c),b) _).trans (rP_close ?_ ?_)
          · intro _ h
            rw [h]
            exact ⟨forms5.2 ⟨hid,⟨rfl,rfl,rfl,rfl⟩,hd⟩,by simp [wordsS,rvE]⟩
          · intro h
            obtain ⟨_,⟨rfl,rfl,rfl,rfl⟩,_⟩:=forms5.1 h
            exact ⟨rfl,rfl⟩
      · have q:=rQuoted_eq (b:=t) (by omega)
        have ql:=quot_len t
        refine bind_eq (x:=(nmK ++ 32 :: (itS id ++ 32 :: quotS t),true,id,0,0,0,1,t,0,0,[])) ?_ ?_
        · simp (disch:=(first | omega | (simp;omega))) [boolO,req_pos,req_true,nmA,nmF,nmK,nmS,orielref34_deed,hid,hd,dg,q]
          refine bind_eq (Deed_eq 1 0 0 t) ?_
          simp [hd]
        · refine (fin_eq (5,id,n,m,role,(1,t,0,0),b) _).trans (rP_close ?_ ?_)
          · intro _ h
            rw [h]
            exact ⟨forms5.2 ⟨hid,⟨rfl,rfl,rfl,rfl⟩,hd⟩,by simp [wordsS,rvE]⟩
          · intro h
            obtain ⟨_,⟨rfl,rfl,rfl,rfl⟩,_⟩:=forms5.1 h
            exact ⟨rfl,rfl⟩
      · skip
        refine bind_eq (x:=(nmA ++ 32 :: itS id,true,id,0,0,0,3,[],0,0,[])) ?_ ?_
        · simp (disch:=(first | omega | (simp;omega))) [boolO,req_pos,req_true,nmA,nmF,nmK,nmS,orielref34_deed,hid,hd,dg]
          refine bind_eq (Deed_eq 3 0 0 []) ?_
          simp [hd]
        · refine (fin_eq (5,id,n,m,role,(3,[],0,0),b) _).trans (rP_close ?_ ?_)
          · intro _ h
            rw [h]
            exact ⟨forms5.2 ⟨hid,⟨rfl,rfl,rfl,rfl⟩,hd⟩,by simp [wordsS,rvE]⟩
          · intro h
            obtain ⟨_,⟨rfl,rfl,rfl,rfl⟩,_⟩:=forms5.1 h
            exact ⟨rfl,rfl⟩
      · skip
        refine bind_eq (x:=(nmF ++ 32 :: itS id,true,id,0,0,0,4,[],0,0,[])) ?_ ?_
        · simp (disch:=(first | omega | (simp;omega))) [boolO,req_pos,req_true,nmA,nmF,nmK,nmS,orielref34_deed,hid,hd,dg]
          refine bind_eq (Deed_eq 4 0 0 []) ?_
          simp [hd]
        · refine (fin_eq (5,id,n,m,role,(4,[],0,0),b) _).trans (rP_close ?_ ?_)
          · intro _ h
            rw [h]
            exact ⟨forms5.2 ⟨hid,⟨rfl,rfl,rfl,rfl⟩,hd⟩,by simp [wordsS,rvE]⟩
          · intro h
            obtain ⟨_,⟨rfl,rfl,rfl,rfl⟩,_⟩:=forms5.1 h
            exact ⟨rfl,rfl⟩
    · skip
      refine bind_eq (x:=([],false,id,0,0,0,dk,t,r,c,[])) ?_ ?_
      · simp (disch:=(first | omega | (simp;omega))) [boolO,req_pos,req_true,nmA,nmF,nmK,nmS,orielref34_deed,hid,hd]
        refine bind_eq (Deed_eq dk r c t) ?_
        simp [hd]
      · refine (fin_eq (5,id,n,m,role,(dk,t,r,c),b) _).trans (rP_close ?_ ?_)
        · intro h;simp at h
        · intro h
          obtain ⟨f1,_,f2⟩:=forms5.1 h
          first | exact absurd f1 hid | exact absurd f2 hd
  · skip
    refine bind_eq (x:=([],false,id,0,0,0,dk,t,r,c,[])) ?_ ?_
    · simp (disch:=(first | omega | (simp;omega))) [boolO,req_pos,req_true,nmA,nmF,nmK,nmS,orielref34_deed,hid]
    · refine (fin_eq (5,id,n,m,role,(dk,t,r,c),b) _).trans (rP_close ?_ ?_)
      · intro h;simp at h
      · intro h
        obtain ⟨f1,_,f2⟩:=forms5.1 h
        first | exact absurd f1 hid | exact absurd f2 hd
/-- The document's Print answers as the program's Line. -/
theorem rPrint_eq {e:EvT} (hb:e.2.2.2.2.2.2.length < 40000000000000):orielref34_Print e = some (if hasLn e = true then (wordsS e,true) else ([],false)):=by
  obtain ⟨k,id,n,m,role,⟨dk,t,r,c⟩,b⟩:=e
  by_cases h1:k = 1
  · subst h1;exact rP1 ..
  by_cases h2:k = 2
  · subst h2;exact rP2 ..
  by_cases h3:k = 3
  · subst h3;exact rP3 ..
  by_cases h4:k = 4
  · subst h4;exact rP4 _ _ _ _ _ _ hb
  by_cases h5:k = 5
  · subst h5;exact rP5 ..
  by_cases h6:k = 6
  · subst h6;exact rP6 ..
  by_cases h7:k = 7
  · subst h7;exact rP7 ..
  by_cases h8:k = 8
  · subst h8;exact rP8 ..
  by_cases h9:k = 9
  · subst h9;exact rP9 ..
  by_cases h10:k = 10
  · subst h10;exact rP10 ..
  exact rP0 k ⟨h1,h2,h3,h4,h5,h6,h7,h8,h9,h10⟩ ..
end Go.SH
namespace Go.SH
theorem rep_snoc {α:Type} (a:α) (i:Nat):List.replicate (i + 1) a = List.replicate i a ++ [a]:=by rw [List.replicate_succ']
theorem linesS_snoc (e:EvT) (i:Nat):linesS (List.replicate (i + 1) e) = linesS (List.replicate i e) ++ (wordsS e ++ [10]):=by
  rw [rep_snoc];simp [linesS]
theorem linesS_rep {e:EvT} {i:Nat} (h:(wordsS e).length ≤ 60):(linesS (List.replicate i e)).length ≤ 61 * i:=by
  induction i with
  | zero=>simp [linesS]
  | succ i ih=>rw [linesS_snoc];simp only [List.length_append,List.length_singleton];omega
theorem many_loop {e:EvT} {n:Nat} (hn:n ≤ 1100) (h:(wordsS e).length ≤ 60):∀ (m i:Nat),i + m = n →
    loopO (oriellaw34_ScriptMany_loop1 (n:Int) (wordsS e,true) e) (linesS (List.replicate i e),(i:Int),List.replicate i e) = some (linesS (List.replicate n e),List.replicate n e):=by
  intro m
  induction m with
  | zero=>
    intro i hi
    obtain rfl:i = n:=by omega
    rw [loopO_eq]
    unfold oriellaw34_ScriptMany_loop1
    simp only [boolO,Option.bind_some]
    rw [dec_f (by omega)]
    simp [req_pos]
  | succ m ih=>
    intro i hi
    rw [loopO_eq]
    have hl:=linesS_rep (i:=i) h
    have hst:oriellaw34_ScriptMany_loop1 (n:Int) (wordsS e,true) e (linesS (List.replicate i e),(i:Int),List.replicate i e) = some (.inr (linesS (List.replicate (i + 1) e),((i + 1:Nat):Int),List.replicate (i + 1) e)):=by
      unfold oriellaw34_ScriptMany_loop1
      simp only [boolO,Option.bind_some]
      rw [dec_t (by omega)]
      simp only [cond_true]
      rw [req_pos (by simp;omega),req_pos (by simp;omega),req_pos trivial,req_pos (by simp [maxBy];omega),req_pos trivial,w64id (by omega),linesS_snoc,rep_snoc]
      rfl
    rw [hst]
    exact ih (i + 1) (by omega)
theorem PN_over {e:EvT} (ho:okE e) (hh:hasLn e = true):∀ (m n:Nat),n ≤ 1001 → n + m > 1001 → PN n (linesS (List.replicate m e)) = .inr (1001,3)
  | 0,n,h1,h2=>by omega
  | m + 1,n,h1,h2=>by
    have hl:=has_len ho hh
    have et:linesS (List.replicate (m + 1) e) = wordsS e ++ 10 :: linesS (List.replicate m e):=by rw [List.replicate_succ];simp [linesS]
    obtain ⟨b1,b2⟩:=bef_app (c:=10) (x:=wordsS e) (r:=linesS (List.replicate m e)) (words10 e)
    rw [et]
    by_cases h3:n = 1001
    · subst h3
      exact PN_long (by simp) (.inr (by omega))
    · rw [PN_step (e:=e) (by simp) (by rw [b1];omega) (by simp) (by rw [b1];exact hasLn_line hh),b2,PN_over ho hh m (n + 1) (by omega) (by omega)]
theorem printS_over {e:EvT} (hh:hasLn e = true):∀ (m i:Nat) (acc:List UInt8),i ≤ 1000 → i + m > 1000 → printS (List.replicate m e) i acc = ([],1000)
  | 0,i,acc,h1,h2=>by omega
  | m + 1,i,acc,h1,h2=>by
    rw [List.replicate_succ]
    unfold printS
    by_cases h3:i = 1000
    · subst h3;simp
    · rw [if_pos ⟨hh,by omega⟩,printS_over hh m (i + 1) _ (by omega) (by omega)]
theorem many_true {a:EvT} (ha:okI a.2.1 ∧ okI a.2.2.1 ∧ okI a.2.2.2.1 ∧ okI a.2.2.2.2.2.1.2.2.1 ∧ okI a.2.2.2.2.2.1.2.2.2) (hb:a.2.2.2.2.2.2.length < 40000000000000) (n:Int):oriellaw34_ScriptMany n a = some true:=by
  unfold oriellaw34_ScriptMany oriellaw34_known
  simp only [Option.bind_some,Bool.not_true,cond_false,boolO,rPrint_eq hb]
  by_cases c1:n < 0
  · rw [dec_t c1];rfl
  rw [dec_f c1]
  by_cases c2:n > 1100
  · rw [dec_t c2];rfl
  rw [dec_f c2]
  cases h:hasLn a with
  | false=>simp
  | true=>
    simp only [if_true,Bool.not_true,cond_false]
    by_cases c3:((wordsS a).length:Int) > 60
    · rw [dec_t c3];rfl
    rw [dec_f c3]
    have hh:=h
    unfold hasLn at hh
    simp only [Bool.and_eq_true,decide_eq_true_eq] at hh
    have oa:okE a:=⟨ha.1,ha.2.1,ha.2.2.1,ha.2.2.2.1,ha.2.2.2.2,by omega,by omega⟩
    obtain ⟨k,rfl⟩:∃ k:Nat,n = (k:Int):=⟨n.toNat,by omega⟩
    have hlp:loopO (oriellaw34_ScriptMany_loop1 (k:Int) (wordsS a,true) a) ([],0,[]) = some (linesS (List.replicate k a),List.replicate k a):=
      many_loop (e:=a) (n:=k) (by omega) (by omega) k 0 (by omega)
    have hll:=linesS_rep (e:=a) (i:=k) (by omega)
    have hall:∀ e ∈ List.replicate k a,okE e:=fun e he=>by rw [List.eq_of_mem_replicate he];exact oa
    have hhas:∀ e ∈ List.replicate k a,hasLn e = true:=fun e he=>by rw [List.eq_of_mem_replicate he];exact h
    simp only [cond_false,Option.bind_some,hlp]
    rw [Parse_eq (show (linesS (List.replicate k a)).length < 900000 by omega),PS_PN]
    simp only [Option.bind_some]
    rw [req_pos trivial,Print_eq hall]
    simp only [Option.bind_some]
    by_cases c4:(k:Int) > 1000
    · rw [dec_t c4,PN_over oa h k 1 (by omega) (by omega),printS_over h k 0 [] (by omega) (by omega)]
      simp [resP,fault_eq 1001 (show 3 ≤ 4 by omega),cdOf]
    · rw [dec_f c4,PN_linesS (List.replicate k a) 1 (fun e he=>⟨hall e he,hhas e he⟩) (by simp;omega),printS_all (List.replicate k a) 0 [] hhas (by simp;omega)]
      simp [resP]
end Go.SH
set_option maxRecDepth 100000
namespace Go.SH
open Go.Proofs
variable [Sent34]
theorem orielref34_Quoted_dq (a:HT (Sh.hss [.h (.tl .tu)])):DF En GT (cl [orielref34_plain_c,orielref34_hex_c] []) Tryd.f37.ntmps Tryd.f37.results.toList (bodyOf Tryd.f37) (.seq .leaf (.seq .leaf (.seq (.seq .leaf (.blk (.loop ⟨[(3,.rww 1 1),(4,.h (.ti .i64))],[5,6,7,8,9,10,11,12,13,14,15,16,17,18,19,20,21,22,23,24,25,26,27,28,29,30,31,32,33,34,35,36,37,38,39,40],[(1,.ls .tu)],[],[0]⟩ [(.exit 0,⟨[(3,.rww 1 1)],[4,5,6,7,8,9,10,11,12,13,14,15,16,17,18,19,20,21,22,23,24,25,26,27,28,29,30,31,32,33,34,35,36,37,38,39,40],[(1,.ls .tu)],[],[0]⟩)] (.seq (.join ⟨[(9,.h .tb)],[6,7,8],[],[],[]⟩ (.reg [(3,{split:=true})]) .leaf) (.join ⟨[(3,.rww 2 1)],[12,13,14,15,16,17,18,19,20,21,22,23,24,25,26,27,28,29,30,31,32,33,34,35,36,37,38,39,40],[(2,.ls .tu)],[],[1]⟩ (.blk (.seq (.join ⟨[(16,.h .tb)],[12,13,14,15],[],[],[]⟩ (.reg [(4,{split:=true,con:=0})]) .leaf) (.reg [(7,{con:=1}),(14,{con:=1})]))) .leaf))))) .leaf))) [.h (.tl .tu)] (.h .ts) a = orielref34_Quoted a:=by kernel_rfl
noncomputable def orielref34_Quoted_c:PCon En:=⟨37,[.h (.tl .tu)],.h .ts,fun a=>orielref34_Quoted a,Tryd.call37,fun a v h=>DF_ok rfl En_mixed rfl En_ok Tryd.func37 rfl rfl (by decide) ((orielref34_Quoted_dq a).trans h)⟩
theorem orielref21_Deed_dq (a:HT (Sh.hss [.st (.tp (.ti .i64) K6f24)])):DF En GT noC Tryd.f38.ntmps Tryd.f38.results.toList (bodyOf Tryd.f38) (.seq .leaf (.seq (.join ⟨[(5,.h .tb)],[3,4],[],[],[]⟩ (.reg [(2,{split:=true})]) (.cond (.seq (.reg [(3,{split:=true}),(8,{split:=true}),(13,{split:=true}),(18,{split:=true})]) .leaf) .leaf)) (.seq (.join ⟨[(37,.h .tb)],[30,31,32,33,34,35,36],[],[],[]⟩ (.reg [(3,{split:=true}),(7,{split:=true})]) .leaf) (.seq (.join ⟨[(40,.h .tb)],[38,39],[],[],[]⟩ (.reg [(2,{split:=true})]) (.cond (.seq (.reg [(4,{split:=true})]) .leaf) .leaf)) (.seq (.reg [(3,{split:=true}),(8,{split:=true})]) .leaf))))) [.st (.tp (.ti .i64) K6f24)] (.h .tb) a = orielref21_Deed a:=by kernel_rfl
noncomputable def orielref21_Deed_c:PCon En:=⟨38,[.st (.tp (.ti .i64) K6f24)],.h .tb,fun a=>orielref21_Deed a,Tryd.call38,fun a v h=>DF_ok rfl En_mixed rfl En_ok Tryd.func38 rfl rfl (by decide) ((orielref21_Deed_dq a).trans h)⟩
theorem orielref34_deed_dq (a:HT (Sh.hss [.st (.tp (.ti .i64) K5605)])):DF En GT (cl [orielref12_Digits_c,orielref34_Quoted_c] []) Tryd.f39.ntmps Tryd.f39.results.toList (bodyOf Tryd.f39) (.seq .leaf (.seq (.reg [(2,{con:=0})]) (.seq (.seq .leaf (.blk (.join ⟨[(11,.h .tb)],[12],[],[],[]⟩ (.reg [(1,{split:=true})]) (.cond (.seq (.reg [(6,{con:=1})]) .leaf) (.join ⟨[(21,.h .tb)],[22],[],[],[]⟩ (.reg [(1,{split:=true})]) (.cond (.seq (.reg [(6,{con:=0}),(12,{con:=0})]) .leaf) (.join ⟨[(37,.h .tb)],[38],[],[],[]⟩ (.reg [(1,{split:=true})]) .leaf))))))) .leaf))) [.st (.tp (.ti .i64) K5605)] (.h .ts) a = orielref34_deed a:=by kernel_rfl
noncomputable def orielref34_deed_c:PCon En:=⟨39,[.st (.tp (.ti .i64) K5605)],.h .ts,fun a=>orielref34_deed a,Tryd.call39,fun a v h=>DF_ok rfl En_mixed rfl En_ok Tryd.func39 rfl rfl (by decide) ((orielref34_deed_dq a).trans h)⟩
theorem orielref34_Print_dq (a:HT (Sh.hss [.st (.tp (.ti .i64) K5605)])):DF En GT (cl [orielref12_Digits_c,orielref34_Quoted_c,orielref21_Deed_c,orielref34_deed_c,orielref34_Same_c] []) Tryd.f23.ntmps Tryd.f23.results.toList (bodyOf Tryd.f23) (.seq .leaf (.join ⟨[(4,.h .tb)],[8,9,10,11,12,13,14,15],[],[],[]⟩ (.reg [(3,{split:=true})]) (.seq .leaf (.seq .leaf (.seq .leaf (.seq .leaf (.join ⟨[(6,.h .ts),(7,.h .tb)],[19,20,21,22,23,24,25,26,27,28,29,30,31,32,33,34,35,36,37,38,39,40,41,42,43,44,45,46,47,48,49,50,51,52,53,54,55,56,57,58,59,60,61,62,63,64,65,66,67,68,69,70,71,72,73,74,75,76,77,78,79,80,81,82,83,84,85,86,87,88,89,90,91,92,93,94,95,96,97,98,99,100,101,102,103,104,105,106,107,108,109,110,111,112,113,114,115,116,117,118,119,120,121,122,123,124,125,126,127,128,129,130,131,132,133,134,135,136,137,138,139,140,141,142,143,144,145,146,147,148,149,150,151,152,153,154,155,156,157,158,159,160,161,162,163,164,165,166,167,168,169,170,171,172,173,174,175,176,177,178,179,180,181,182,183,184,185,186,187,188,189,190,191,192,193,194,195,196,197,198,199,200,201,202,203,204,205,206,207,208,209,210,211,212,213,214,215,216,217,218,219,220,221,222,223,224,225,226,227,228,229,230,231,232],[],[(1,1,.h (.ti .i64)),(1,2,.h (.ti .i64)),(1,3,.h (.ti .i64)),(1,4,.h (.ti .i64)),(1,5,.h (.ti .i64)),(1,6,.h (.tl .tu)),(1,7,.h (.ti .i64)),(1,8,.h (.ti .i64)),(1,9,.h (.tl .tu))],[]⟩ (.seq .leaf (.blk (.join ⟨[(21,.h .tb)],[22,23,24],[],[],[]⟩ (.join ⟨[(21,.h .tb)],[22],[],[],[]⟩ (.reg [(1,{split:=true})]) (.cond .leaf (.join ⟨[(21,.h .tb)],[23],[],[],[]⟩ (.reg [(1,{split:=true})]) (.cond .leaf (.reg [(1,{split:=true})]))))) (.cond (.seq .leaf (.seq .leaf (.seq .leaf (.join ⟨[(6,.h .ts)],[29,30,31],[],[],[]⟩ (.join ⟨[(31,.h .tb)],[29,30],[],[],[]⟩ (.reg [(2,{split:=true})]) .leaf) (.join ⟨[(6,.h .ts)],[32,33,34],[],[],[]⟩ (.join ⟨[(34,.h .tb)],[32,33],[],[],[]⟩ (.reg [(2,{split:=true})]) .leaf) (.join ⟨[(6,.h .ts)],[35,36,37,38,39,40],[],[],[]⟩ (.join ⟨[(35,.h .tb)],[],[],[],[]⟩ (.reg [(0,{split:=true})]) (.cond (.reg [(3,{con:=0})]) .leaf)) (.join ⟨[(43,.h .tb)],[41,42],[],[],[]⟩ (.reg [(2,{split:=true})]) (.cond (.seq .leaf (.join ⟨[(7,.h .tb)],[47,48,49,50,51,52,53,54,55,56,57],[],[],[]⟩ (.reg [(1,{split:=true}),(5,{split:=true})]) (.join ⟨[(60,.h .tb)],[58,59],[],[],[]⟩ (.reg [(2,{split:=true})]) .leaf))) .leaf)))))))) (.join ⟨[(65,.h .tb)],[66],[],[],[]⟩ (.reg [(1,{split:=true})]) (.cond (.seq .leaf (.seq .leaf (.reg [(2,{con:=1})]))) (.join ⟨[(78,.h .tb)],[79],[],[],[]⟩ (.reg [(1,{split:=true})]) (.cond (.seq .leaf (.seq .leaf (.join ⟨[(7,.h .tb)],[86,87,88,89,90,91],[],[],[]⟩ (.reg [(1,{split:=true}),(4,{con:=2})]) (.join ⟨[(92,.h .tb)],[],[],[],[]⟩ (.reg [(0,{split:=true})]) (.cond (.reg [(1,{con:=3})]) .leaf))))) (.join ⟨[(95,.h .tb)],[96,97,98],[],[],[]⟩ (.join ⟨[(95,.h .tb)],[96],[],[],[]⟩ (.reg [(1,{split:=true})]) (.cond .leaf (.join ⟨[(95,.h .tb)],[97],[],[],[]⟩ (.reg [(1,{split:=true})]) (.cond .leaf (.reg [(1,{split:=true})]))))) (.cond (.seq .leaf (.join ⟨[(7,.h .tb)],[102,103,104,105,106,107,108,109],[],[],[]⟩ (.reg [(3,{split:=true})]) (.seq .leaf (.join ⟨[(6,.h .ts),(7,.h .tb)],[110,111,112,113,114,115,116,117,118,119,120],[],[],[]⟩ (.join ⟨[(112,.h .tb)],[110,111],[],[],[]⟩ (.reg [(2,{split:=true})]) (.cond (.seq .leaf (.reg [(3,{split:=true})])) .leaf)) (.join ⟨[(6,.h .ts),(7,.h .tb)],[121,122,123,124,125,126,127,128,129,130,131,132,133,134,135,136,137],[],[(1,3,.h (.ti .i64))],[]⟩ (.join ⟨[(123,.h .tb)],[121,122],[],[],[]⟩ (.reg [(2,{split:=true})]) (.cond (.seq .leaf (.seq .leaf (.reg [(1,{split:=true}),(6,{split:=true})]))) .leaf)) (.join ⟨[(6,.h .ts)],[138,139,140,141,142,143],[],[],[]⟩ (.join ⟨[(138,.h .tb)],[],[],[],[]⟩ (.reg [(0,{split:=true})]) (.cond (.reg [(3,{con:=0})]) .leaf)) (.join ⟨[(149,.h .tb)],[144,145,146,147,148],[],[],[]⟩ (.reg [(1,{split:=true}),(5,{split:=true})]) (.cond (.reg [(4,{con:=0})]) .leaf)))))))) (.join ⟨[(156,.h .tb)],[157,158],[],[],[]⟩ (.join ⟨[(156,.h .tb)],[157],[],[],[]⟩ (.reg [(1,{split:=true})]) (.cond .leaf (.reg [(1,{split:=true})]))) (.cond (.seq .leaf (.seq .leaf (.join ⟨[(7,.h .tb)],[165,166,167,168,169,170,171,172,173,174,175],[],[],[]⟩ (.reg [(1,{split:=true}),(6,{split:=true})]) (.join ⟨[(6,.h .ts)],[176,177,178,179,180,181,182,183,184,185],[],[],[]⟩ (.join ⟨[(176,.h .tb)],[],[],[],[]⟩ (.reg [(0,{split:=true})]) (.cond (.reg [(2,{con:=0}),(7,{con:=0})]) .leaf)) (.join ⟨[(188,.h .tb)],[186,187],[],[],[]⟩ (.reg [(2,{split:=true})]) (.cond (.seq .leaf (.seq .leaf (.join ⟨[(7,.h .tb)],[195,196,197,198,199,200,201,202,203,204,205,206,207,208,209,210,211],[],[],[]⟩ (.reg [(1,{split:=true}),(5,{split:=true}),(11,{split:=true})]) (.join ⟨[(212,.h .tb)],[],[],[],[]⟩ (.reg [(0,{split:=true})]) (.cond (.reg [(2,{con:=0}),(7,{con:=0}),(13,{sel:=true}),(18,{con:=1})]) .leaf))))) .leaf)))))) .leaf)))))))))))) (.seq (.join ⟨[(240,.h .tb)],[233,234,235,236,237,238,239],[],[],[]⟩ (.reg [(2,{split:=true}),(5,{con:=4}),(7,{split:=true})]) .leaf) .leaf)))))))) [.st (.tp (.ti .i64) K5605)] (.tup [.h .ts,.h .tb]) a = orielref34_Print a:=by kernel_rfl
noncomputable def orielref34_Print_c:PCon En:=⟨23,[.st (.tp (.ti .i64) K5605)],.tup [.h .ts,.h .tb],fun a=>orielref34_Print a,Tryd.call23,fun a v h=>DF_ok rfl En_mixed rfl En_ok Tryd.func23 rfl rfl (by decide) ((orielref34_Print_dq a).trans h)⟩
theorem oriellaw34_ScriptMany_dq (a:HT (Sh.hss [.h (.ti .i64),.st (.tp (.ti .i64) K5605)])):DF En GT (cl [oriellaw34_known_c,orielref34_Print_c,script_Parse_c,script_Print_c,oriellaw34_fault_c] []) Tryd.f9.ntmps Tryd.f9.results.toList (bodyOf Tryd.f9) (.seq .leaf (.seq (.join ⟨[(17,.h .tb)],[16],[],[],[]⟩ (.reg [(0,{con:=0}),(1,{split:=true})]) .leaf) (.seq (.reg [(1,{con:=1})]) (.seq (.join ⟨[(37,.h .tb)],[23,24,25,26,27,28,29,30,31,32,33,34,35,36],[],[],[]⟩ (.reg [(2,{split:=true}),(6,{split:=true}),(10,{split:=true}),(14,{split:=true})]) .leaf) (.seq .leaf (.seq .leaf (.seq (.seq .leaf (.blk (.loop ⟨[(7,.h .ts),(8,.rww 1 10),(9,.h (.ti .i64))],[38,39,40,41,42,43,44,45,46,47,48,49,50],[(1,.ls (.tp (.ti .i64) K5605))],[],[]⟩ [(.exit 0,⟨[(7,.h .ts),(8,.rww 1 10)],[9,38,39,40,41,42,43,44,45,46,47,48,49,50],[(1,.ls (.tp (.ti .i64) K5605))],[],[]⟩)] (.seq (.join ⟨[(40,.h .tb)],[38,39],[],[],[]⟩ (.reg [(2,{split:=true})]) .leaf) .leaf)))) (.seq (.reg [(1,{con:=2})]) (.seq (.reg [(1,{con:=3})]) (.seq (.join ⟨[(62,.h .tb)],[61],[],[],[]⟩ (.reg [(1,{split:=true})]) (.cond (.seq (.reg [(1,{con:=4})]) (.seq (.reg [(3,{split:=true}),(7,{split:=true}),(11,{split:=true}),(15,{split:=true})]) .leaf)) .leaf)) (.seq (.reg [(2,{split:=true}),(8,{split:=true}),(13,{split:=true})]) .leaf))))))))))) [.h (.ti .i64),.st (.tp (.ti .i64) K5605)] (.h .tb) a = oriellaw34_ScriptMany a.1 a.2:=by kernel_rfl
noncomputable def oriellaw34_ScriptMany_c:PCon En:=⟨9,[.h (.ti .i64),.st (.tp (.ti .i64) K5605)],.h .tb,fun a=>oriellaw34_ScriptMany a.1 a.2,Tryd.call9,fun a v h=>DF_ok rfl En_mixed rfl En_ok Tryd.func9 rfl rfl (by decide) ((oriellaw34_ScriptMany_dq a).trans h)⟩
end Go.SH
namespace Go.SH
/-- What the numbers of an input may be. -/
def ET.wf:(t:ET) → t.T → Prop
  | .ti k,x=>(Lit.int k x).wf = true
  | .tp a c,x=>a.wf x.1 ∧ c.wf x.2
  | .tl t,l=>(∀ x ∈ l,t.wf x) ∧ l.length ≤ maxLen
  | _,_=>True
def offsB (P:Program) (tot:Nat):Nat → List Field → Bool
  | o,[]=>o == tot
  | o,f :: r=>(f.offset == o) && offsB P tot (o + P.cellsOf f.type) r
/-- Types that stand for a kind: one, or a struct's, one behind the other. -/
inductive Fit (P:Program):ET → List TypeId → Prop where
  | int {k:IntKind} {τ:TypeId} (h:P.underlying τ = some (.int k)):Fit P (.ti k) [τ]
  | u8 {τ:TypeId} (h:P.underlying τ = some (.int .u8)):Fit P .tu [τ]
  | bool {τ:TypeId} (h:P.underlying τ = some .bool):Fit P .tb [τ]
  | slice {t:ET} {τ e:TypeId} (h:P.underlying τ = some (.slice e)) (hs:P.cellsOf e = t.sz) (f:Fit P t [e]):Fit P (.tl t) [τ]
  | struct {t:ET} {τ:TypeId} {fs:Array Field} (h:P.underlying τ = some (.struct fs)) (ho:offsB P (P.cellsOf τ) 0 fs.toList = true) (f:Fit P t (fs.toList.map (·.type))):Fit P t [τ]
  | array {t:ET} {τ e:TypeId} {n:Nat} (h:P.underlying τ = some (.array n e)) (hz:P.cellsOf τ = n * P.cellsOf e) (f:Fit P t (List.replicate n e)):Fit P t [τ]
  | cons {a c:ET} {τ τ':TypeId} {τs:List TypeId} (f:Fit P a [τ]) (g:Fit P c (τ' :: τs)):Fit P (.tp a c) (τ :: τ' :: τs)
section
variable {H:Type} {enc:TypeId × Value → H} {P:Program} {w:World} {base:Nat} {sp:Nat → Bool} {held:Bool}
/-- Cells that are read as types, one behind the other. -/
def Reads (enc:TypeId × Value → H) (P:Program) (w:World) (base:Nat) (sp:Nat → Bool) (held:Bool):List TypeId → List Value → Prop
  | [],cs=>cs = []
  | τ :: r,cs=>(∃ fuel x,DataW.trod enc P w base sp held fuel τ (cs.take (P.cellsOf τ)) = some x) ∧ Reads enc P w base sp held r (cs.drop (P.cellsOf τ))
theorem reads_one {τ:TypeId} {cs:List Value} (h:Reads enc P w base sp held [τ] cs):∃ fuel x,DataW.trod enc P w base sp held fuel τ cs = some x:=by
  obtain ⟨⟨f,x,hx⟩,hd⟩:=h
  have hd':cs.drop (P.cellsOf τ) = []:=hd
  have:cs.take (P.cellsOf τ) = cs:=List.take_of_length_le (by simpa using hd')
  rw [this] at hx
  exact ⟨f,x,hx⟩
theorem VRs.append {w:World} {σ:Sig} {av:Nat → Prop} {xs ys:List PV} {cs ds:List Value} (h:VRs w σ av xs cs) (h':VRs w σ av ys ds):VRs w σ av (xs ++ ys) (cs ++ ds):=by
  induction h with
  | nil=>exact h'
  | cons h _ ih=>exact .cons h ih
theorem reads_fields {n:Nat} {tot:Nat} {cs:List Value} (hl:cs.length = tot):∀ (l:List Field) (o:Nat),offsB P tot o l = true → (∀ f ∈ l,∃ x,DataW.trod enc P w base sp held n f.type ((cs.drop f.offset).take (P.cellsOf f.type)) = some x) →
    Reads enc P w base sp held (l.map (·.type)) (cs.drop o)
  | [],o,ho,_=>by
    have:o = tot:=by simpa [offsB] using ho
    show cs.drop o = []
    rw [this,← hl,List.drop_length]
  | f :: r,o,ho,h=>by
    simp only [offsB,Bool.and_eq_true,beq_iff_eq] at ho
    obtain ⟨rfl,ho⟩:=ho
    obtain ⟨x,hx⟩:=h f (by simp)
    refine ⟨⟨n,x,hx⟩,?_⟩
    have:=reads_fields hl r _ ho (fun g hg=>h g (by simp [hg]))
    rw [List.drop_drop]
    exact this
theorem reads_arr {m n:Nat} {e:TypeId} {cs:List Value} (hl:cs.length = n * P.cellsOf e) (h:∀ i,i < n → ∃ x,DataW.trod enc P w base sp held m e ((cs.drop (i * P.cellsOf e)).take (P.cellsOf e)) = some x) :
    ∀ (k i:Nat),i + k = n → Reads enc P w base sp held (List.replicate k e) (cs.drop (i * P.cellsOf e))
  | 0,i,hi=>by
    have:i = n:=by omega
    subst this
    show cs.drop _ = []
    rw [← hl,List.drop_length]
  | k + 1,i,hi=>by
    obtain ⟨x,hx⟩:=h i (by omega)
    refine ⟨⟨m,x,hx⟩,?_⟩
    have:=reads_arr hl h k (i + 1) (by omega)
    rw [List.drop_drop]
    rw [Nat.succ_mul] at this
    exact this
variable [SentA]
/-- Elements that lie one behind the other. -/
theorem elems_open {t:ET} {s β:Nat}:∀ (n off:Nat),(∀ i,i < n → ∃ (v:t.T) (cs:List Value),cs.length = s ∧ (∀ j,j < s → w.cell? ⟨β,off + (i * s + j),none⟩ = cs[j]?) ∧ VRs w sig0 av0 ((el t).pv v) cs ∧ t.wf v) →
    ∃ (l:List t.T) (cs:List Value),l.length = n ∧ cs.length = n * s ∧ (∀ j,j < n * s → w.cell? ⟨β,off + j,none⟩ = cs[j]?) ∧ VRs w sig0 av0 (fl (el t) l) cs ∧ ∀ x ∈ l,t.wf x
  | 0,off,_=>⟨[],[],rfl,by simp,fun j hj=>by simp at hj,.nil,fun x hx=>by simp at hx⟩
  | n + 1,off,h=>by
    obtain ⟨v,cs,h1,h2,h3,h4⟩:=h 0 (by omega)
    obtain ⟨l,ds,k1,k2,k3,k4,k5⟩:=elems_open n (off + s) fun i hi=>by
      obtain ⟨v',cs',q1,q2,q3⟩:=h (i + 1) (by omega)
      refine ⟨v',cs',q1,fun j hj=>?_,q3⟩
      rw [← q2 j hj]
      congr 2
      rw [Nat.succ_mul];omega
    refine ⟨v :: l,cs ++ ds,by simp [k1],by rw [List.length_append,h1,k2,Nat.succ_mul];omega,fun j hj=>?_,by rw [fl_cons];exact h3.append k4,fun x hx=>?_⟩
    · by_cases hj2:j < s
      · rw [List.getElem?_append_left (by omega),← h2 j hj2]
        congr 2;omega
      · rw [List.getElem?_append_right (by omega),h1,← k3 (j - s) (by rw [Nat.succ_mul] at hj;omega)]
        congr 2;omega
    · rcases List.mem_cons.1 hx with rfl | hx
      · exact h4
      · exact k5 x hx
theorem fit_open {t:ET} {τs:List TypeId} (hf:Fit P t τs):∀ {cs:List Value},Reads enc P w base sp held τs cs → ∃ v:t.T,VRs w sig0 av0 ((el t).pv v) cs ∧ t.wf v:=by
  induction hf with
  | int h=>
    intro cs hr
    obtain ⟨f,x,hx⟩:=reads_one hr
    obtain ⟨n,rfl,_,hw⟩:=DataW.trod_int h hx
    exact ⟨n,.cons (.int _ _) .nil,hw⟩
  | u8 h=>
    intro cs hr
    obtain ⟨f,x,hx⟩:=reads_one hr
    obtain ⟨n,rfl,_,hw⟩:=DataW.trod_int h hx
    have h1:IntKind.u8.min = 0:=rfl
    have h2:IntKind.u8.max = 255:=rfl
    simp only [Lit.wf,Bool.and_eq_true,decide_eq_true_eq,h1,h2] at hw
    refine ⟨UInt8.ofNat n.toNat,?_,trivial⟩
    have e:((UInt8.ofNat n.toNat).toNat:Int) = n:=by rw [UInt8.toNat_ofNat'];omega
    have:(el .tu).pv (UInt8.ofNat n.toNat) = [.int .u8 n]:=by
      show [PV.int .u8 ((UInt8.ofNat n.toNat).toNat:Int)] = _
      rw [e]
    rw [this]
    exact .cons (.int _ _) .nil
  | bool h=>
    intro cs hr
    obtain ⟨f,x,hx⟩:=reads_one hr
    obtain ⟨b,rfl,_⟩:=DataW.trod_bool h hx
    exact ⟨b,.cons (.bool _) .nil,trivial⟩
  | @slice t τ e h hs hf ih=>
    intro cs hr
    obtain ⟨f,x,hx⟩:=reads_one hr
    rcases DataW.trod_slice h hx with ⟨rfl,_⟩ | ⟨a,len,cap,elems,rest,n,_,rfl,_,hb,hl,hm,hlen,hel,_⟩
    · exact ⟨[],.cons (.roE _ _ (by simp)) .nil,fun x hx=>by simp at hx,Nat.zero_le _⟩
    · by_cases h0:len = 0
      · subst h0
        exact ⟨[],.cons (.roE _ _ (by simp)) .nil,fun x hx=>by simp at hx,Nat.zero_le _⟩
      · have each:∀ i,i < len → ∃ (v:t.T) (ds:List Value),ds.length = t.sz ∧ (∀ j,j < t.sz → w.cell? ((a.add (i * t.sz)).add j) = ds[j]?) ∧ VRs w sig0 av0 ((el t).pv v) ds ∧ t.wf v:=by
          intro i hi
          have k:=hel i hi
          rw [List.getElem?_eq_getElem (by omega)] at k
          obtain ⟨ds,d1,d2⟩:=Option.bind_eq_some_iff.1 k
          obtain ⟨_,e1,e2⟩:=World.cells?_some d1
          rw [hs] at e1 e2
          obtain ⟨v,v1,v2⟩:=ih (cs:=ds) ⟨⟨n,_,by rw [List.take_of_length_le (by omega)];exact d2⟩,by show ds.drop _ = [];rw [hs,← e1,List.drop_length]⟩
          exact ⟨v,ds,e1,e2,v1,v2⟩
        obtain ⟨b,off,spot⟩:=a
        obtain ⟨v0,ds0,q1,q2,_⟩:=each 0 (by omega)
        have hpos:0 < t.sz:=t.sz_pos
        have c0:=q2 0 hpos
        rw [List.getElem?_eq_getElem (by omega)] at c0
        have hspot:spot = none:=by simpa [Addr.add] using World.cell?_spot c0
        subst hspot
        obtain ⟨l,ds,l1,l2,l3,l4,l5⟩:=elems_open (w:=w) (t:=t) (s:=t.sz) (β:=b) len off fun i hi=>by
          obtain ⟨v,ds,q1,q2,q3⟩:=each i hi
          refine ⟨v,ds,q1,fun j hj=>?_,q3⟩
          rw [← q2 j hj,Go.WideShapes.add_plain,Go.WideShapes.add_plain,Nat.add_assoc]
        have hlt:b < w.heap.size:=by
          have:=l3 0 (Nat.mul_pos (by omega) hpos)
          have hds:0 < ds.length:=by rw [l2];exact Nat.mul_pos (by omega) hpos
          rw [List.getElem?_eq_getElem hds] at this
          rcases Nat.lt_or_ge b w.heap.size with h' | h'
          · exact h'
          · simp [World.cell?,Array.getElem?_eq_none h'] at this
        refine ⟨l,.cons ?_ .nil,l5,by omega⟩
        show VR w sig0 av0 (.ro (fl (el t) l) l.length none) _
        rw [l1]
        refine .ro ds ⟨hlt,av0_no _,fun i v hi=>?_⟩ l4.get.1 l4.get.2 hl (by simp)
        have:i < ds.length:=(List.getElem?_eq_some_iff.1 hi).1
        rw [l3 i (by omega),hi]
  | struct h ho hf ih=>
    intro cs hr
    obtain ⟨f,x,hx⟩:=reads_one hr
    obtain ⟨xs,n,_,_,hl,hxl,hfs⟩:=DataW.trod_struct h hx
    refine ih ?_
    have:=reads_fields (enc:=enc) (P:=P) (w:=w) (base:=base) (sp:=sp) (held:=held) (n:=n) hl _ 0 ho fun g hg=>by
      obtain ⟨i,hi,he⟩:=List.getElem_of_mem hg
      have hi':i < xs.length:=by rw [hxl];simpa using hi
      refine ⟨xs[i],?_⟩
      rw [hfs i g (by rw [← he];simp at hi ⊢),List.getElem?_eq_getElem hi']
    simpa using this
  | @array t τ e n h hz hf ih=>
    intro cs hr
    obtain ⟨f,x,hx⟩:=reads_one hr
    obtain ⟨xs,m,_,_,hl,hxl,hfs⟩:=DataW.trod_array h hx
    refine ih ?_
    have:=reads_arr (enc:=enc) (w:=w) (base:=base) (sp:=sp) (held:=held) (m:=m) (hl.trans hz) (fun i hi=>⟨xs[i]'(by omega),by rw [hfs i hi,List.getElem?_eq_getElem (by omega)]⟩) n 0 (by omega)
    simpa using this
  | @cons a c τ τ' τs hf hg ih1 ih2=>
    intro cs hr
    obtain ⟨⟨f,x,hx⟩,hd⟩:=hr
    by_cases hle:P.cellsOf τ ≤ cs.length
    · obtain ⟨v,v1,v2⟩:=ih1 (cs:=cs.take (P.cellsOf τ)) ⟨⟨f,x,by rw [List.take_take,Nat.min_self];exact hx⟩,by show List.drop _ _ = [];rw [List.drop_take,Nat.sub_self,List.take_zero]⟩
      obtain ⟨u,u1,u2⟩:=ih2 hd
      refine ⟨(v,u),?_,v2,u2⟩
      show VRs w sig0 av0 ((el a).pv v ++ (el c).pv u) cs
      have:=v1.append u1
      rwa [List.take_append_drop] at this
    · have e1:cs.take (P.cellsOf τ) = cs:=List.take_of_length_le (by omega)
      obtain ⟨v,v1,v2⟩:=ih1 (cs:=cs) ⟨⟨f,x,hx⟩,by show cs.drop _ = [];exact List.drop_eq_nil_of_le (by omega)⟩
      obtain ⟨u,u1,u2⟩:=ih2 hd
      rw [List.drop_eq_nil_of_le (by omega)] at u1
      refine ⟨(v,u),?_,v2,u2⟩
      show VRs w sig0 av0 ((el a).pv v ++ (el c).pv u) cs
      have:=v1.append u1
      rwa [List.append_nil] at this
theorem open_agg {t:ET} {τ:TypeId} (hf:Fit P t [τ]) {cs:Array Value} (hz:cs.size = P.cellsOf τ) {d:DataW H} {p:List MemPlace} (h:DataW.Trod enc P w base sp held τ (.agg cs) d p) :
    ∃ x:t.T,VR w sig0 av0 (.agg ((el t).pv x)) (.agg cs) ∧ VRs w sig0 av0 ((el t).pv x) cs.toList ∧ t.wf x:=by
  obtain ⟨fuel,hf'⟩:=h
  have hc:(Value.agg cs).cells.toList = cs.toList:=by simp [Value.cells]
  rw [hc] at hf'
  have hl:cs.toList.length = P.cellsOf τ:=by simpa using hz
  obtain ⟨x,h1,h2⟩:=fit_open hf (cs:=cs.toList) ⟨⟨fuel,_,by rw [List.take_of_length_le (by omega)];exact hf'⟩,by show List.drop _ _ = [];exact List.drop_eq_nil_of_le (by omega)⟩
  refine ⟨x,?_,h1,h2⟩
  have:=VR.agg (w:=w) (σ:=sig0) (av:=av0) cs.toList h1.get.1 h1.get.2
  simpa using this
theorem open_st {τ:TypeId} {fs:Array Field} {v:Value} (h:Value.okWide P w .any base τ v) (hu:P.underlying τ = some (.struct fs)):∃ cs,v = .agg cs ∧ cs.size = P.cellsOf τ:=by
  unfold Value.okWide at h
  rw [hu] at h
  obtain ⟨cs,h1,h2,_⟩:=h
  exact ⟨cs,h1,h2⟩
end
end Go.SH
set_option maxRecDepth 100000
namespace Go.Proofs.YtaildpaandndgaaDoor
open Go.ChangeShapes Go.WideShapes Go.ChangeAt Go.RowKit Go.Joins Go.SH
theorem own:ownKnob Tryd.prog.godebug = none:=by kernel_rfl
theorem laidOut:laidOutB Tryd.prog = true:=by kernel_rfl
def laidL:List (String × DataW Unit):=Rows.scriptParsesRow.laid
/-- The settled world, its variables laid: the tied ones as the door's run leaves them, the pinned one its table. -/
noncomputable def laidWorld (os:Os):World:=
  let w0:=World.doorLaid Tryd.prog 400 os
  { w0 with heap:=w0.heap.modify 8 fun
      | .cells _ t frozen=>.cells (Go.Lib.firstTab.map fun z=>Value.int .u8 z).toArray t frozen
      | o=>o }
theorem laid_nd (os:Os) (args:Array Value):laidMet Tryd.prog (laidL.filter fun x=>x.2.handleName?.isNone) ((laidWorld os).forCall (fun _ _=>0) ⟨#[],args,[]⟩).memory:=
  laidMet_of_run' 8 (by kernel_rfl) (by kernel_rfl)
theorem laid_h (os:Os) (args:Array Value):(laidL.filter fun x=>x.2.handleName?.isSome && x.2.funcsIn?.isNone).all (handleAtB Tryd.prog ((laidWorld os).forCall (fun _ _=>0) ⟨#[],args,[]⟩).memory) = true:=by kernel_rfl
theorem door_met (os:Os) (args:Array Value):laidMetH Tryd.prog laidL ((laidWorld os).forCall (fun _ _=>0) ⟨#[],args,[]⟩).memory:=
  laidMetH_of_parts3 (fuel:=8) (laid_nd os args) (laid_h os args) (by kernel_rfl)
end Go.Proofs.YtaildpaandndgaaDoor
set_option maxRecDepth 100000
namespace Go.SH
open Go.RowKit Go.ChangeShapes
theorem var_heap {P:Program} {W:World} {n:String} {cs:Array Value} {g:Nat} (h:W.var? P n = some cs) (hg:P.globalNamed n = some g):∃ T fr,W.heap[g]? = some (.cells cs T fr):=by
  unfold World.var? at h
  rw [hg] at h
  simp only [Option.bind_some] at h
  split at h
  · rename_i c T fr e
    simp at h;subst h
    exact ⟨T,fr,e⟩
  · cases h
theorem rop1 {W:World} {g:Nat} {x:PV} {v:Value} {c:Array Value} {T:TypeId} {fr:Nat × Nat} (hh:W.heap[g]? = some (.cells c T fr)) (h0:c[0]? = some v) (hv:VR W sig0 av0 x v) :
    VR W sig0 av0 (.rop [x] 0) (.pointer (some ⟨g,0,none⟩)):=
  .rop (add:=0) [v] ⟨(Array.getElem?_eq_some_iff.1 hh).1,av0_no _,fun i u hi=>by
    cases i with
    | zero=>simp at hi;subst hi;simp [World.cell?,hh,h0]
    | succ i=>simp at hi⟩ rfl fun i y u hy hu=>by
    cases i with
    | zero=>simp at hy hu;subst hy;subst hu;exact hv
    | succ i=>simp at hy
abbrev RowsOk (P:Program) (W:World) (ps:List MemPlace):Prop:=
  ∀ b off,MemPlace.cell b off ∈ ps → (∃ c t,W.heap[b]? = some (.cells c t (0,0))) ∧ ∀ u v,W.cell? ⟨b,off,none⟩ = some (.iface u v) → Value.okWide P W .any 0 u v
theorem RowsOk.right {P:Program} {W:World} {p q:List MemPlace} (h:RowsOk P W (p ++ q)):RowsOk P W q:=fun b off hm=>h b off (List.mem_append_right _ hm)
theorem pop_skip {P:Program} {W:World} {n:String} {d:DataW Unit} {r:List (String × DataW Unit)} {ps:List MemPlace} (h:DataW.LaidVars P W ((n,d) :: r) ps):∃ p q,DataW.LaidVars P W r q ∧ ps = p ++ q:=by
  obtain ⟨g,t,cs,fuel,p,q,_,_,_,_,hq,rfl⟩:=h
  exact ⟨_,q,hq,rfl⟩
theorem pop_sent {P:Program} {W:World} {n nm:String} {text:List UInt8} {r:List (String × DataW Unit)} {ps:List MemPlace} {g:Nat} {ti tp te ts:TypeId} {ms:Array (String × TypeId)} {f:Field}
    (hr:RowsOk P W ps)
    (hg:P.globalNamed n = some g) (ht:(P.globals[g]?).map (·.type) = some ti) (hi:P.underlying ti = some (.interface ms)) (hrow:∀ u,P.typeName? 3 u = some nm → u = tp)
    (hp:P.underlying tp = some (.pointer te)) (he:P.underlying te = some (.struct #[f])) (hft:f.type = ts) (hfo:f.offset = 0) (hs:P.underlying ts = some .string) (hc:P.cellsOf te = 1) (hcs:P.cellsOf ts = 1)
    (h:DataW.LaidVars P W ((n,.iface nm (.ptr (.agg [.lit (.string text)]))) :: r) ps) :
    ∃ (a:Addr) (q:List MemPlace),W.var? P n = some #[.iface tp (.pointer (some a))] ∧ (∃ c t,W.heap[a.block]? = some (.cells c t (0,0))) ∧ DataW.LaidVars P W r q ∧ ps = [.cell g 0,.cell a.block a.off] ++ q:=by
  obtain ⟨g0,t0,cs0,f0,p0,q0,hg0,ht0,hv0,hd0,hq,rfl⟩:=h
  obtain rfl:=Option.some.inj (hg.symm.trans hg0)
  obtain rfl:=Option.some.inj (ht.symm.trans ht0)
  obtain ⟨l0⟩:=cs0
  have ok0:∀ u v,l0 = [.iface u v] → Value.okWide P W .any 0 u v:=fun u v e=>by
    subst e
    exact (hr g 0 (by simp [MemPlace.row])).2 u v (by simpa using World.var?_cell hg0 hv0 0)
  obtain ⟨a0,s0,rfl,hc0,hs0,hz0,rfl⟩:=errorString_of_trod hi hrow hp he hft hfo hs hc hcs hd0 ok0
  exact ⟨a0,q0,hv0,(hr a0.block a0.off (by simp [MemPlace.row])).1,hq,by simp [MemPlace.row]⟩
theorem ne_of_places {a b:Addr} (h:MemPlace.cell a.block a.off ≠ MemPlace.cell b.block b.off):a ≠ b:=fun e=>h (by rw [e])
end Go.SH
namespace Go.Proofs.YtaildpaandndgaaDoor
open Go.ChangeShapes Go.WideShapes Go.ChangeAt Go.RowKit Go.Joins Go.SH
theorem star:"*" ++ "errors.errorString" = "*errors.errorString":=by decide
theorem row71 (u:TypeId) (h:Tryd.prog.typeName? 3 u = some "*errors.errorString"):u = 71:=
  typeName_ptr_named (nm:="errors.errorString") (by rw [star];kernel_rfl) (by kernel_rfl) (by decide) u (by rw [star];exact h)
theorem g0:Tryd.prog.globalNamed "oriel/script.ErrText" = some 0:=by kernel_rfl
theorem g1:Tryd.prog.globalNamed "oriel/script.ErrWord" = some 1:=by kernel_rfl
theorem g2:Tryd.prog.globalNamed "oriel/script.ErrEnd" = some 2:=by kernel_rfl
theorem g3:Tryd.prog.globalNamed "oriel/script.ErrLong" = some 3:=by kernel_rfl
theorem g4:Tryd.prog.globalNamed "oriel/script.ErrNumber" = some 4:=by kernel_rfl
theorem g5:Tryd.prog.globalNamed "errors.errorType" = some 5:=by kernel_rfl
theorem g7:Tryd.prog.globalNamed "internal/strconv.uint64pow10" = some 7:=by kernel_rfl
theorem t7:(Tryd.prog.globals[7]?).map (·.type) = some 166:=by kernel_rfl
theorem rtT:(Tryd.prog.cutTypes.find? (·.1 == "internal/reflectlite.rtype")).map (·.2) = some 121:=by kernel_rfl
theorem oneRow:((List.range 303).filter fun t=>Tryd.prog.rowNamed t [101,114,114,111,114]) = [25]:=by kernel_rfl
theorem size:Tryd.prog.types.size ≤ 303:=of_decide_eq_true (by kernel_rfl)
theorem handle25:typeHandle Tryd.prog 25 = .pointer (some ⟨12,25,none⟩):=by kernel_rfl
/-- One of the five. -/
theorem pop {W:World} {n:String} {g:Nat} {text:List UInt8} {r:List (String × DataW Unit)} {ps:List MemPlace} (hg:Tryd.prog.globalNamed n = some g) (ht:(Tryd.prog.globals[g]?).map (·.type) = some 25) (hr:RowsOk Tryd.prog W ps)
    (h:DataW.LaidVars Tryd.prog W ((n,.iface "*errors.errorString" (.ptr (.agg [.lit (.string text)]))) :: r) ps) :
    ∃ (a:Addr) (q:List MemPlace),(EvA W av0 a ∧ VR W sig0 av0 (.rop [.ev 71 (some a)] 0) (.pointer (some ⟨g,0,none⟩))) ∧ DataW.LaidVars Tryd.prog W r q ∧ ps = [.cell g 0,.cell a.block a.off] ++ q:=by
  obtain ⟨a,q,hv,hb,hq,e⟩:=pop_sent hr hg ht Tryd.underlying25 row71 Tryd.underlying71 Tryd.underlying73 rfl rfl Tryd.underlying9 (by kernel_rfl) (by kernel_rfl) h
  have hE:EvA W av0 a:=⟨av0_no _,hb⟩
  obtain ⟨T,fr,hh⟩:=var_heap hv hg
  exact ⟨a,q,⟨hE,rop1 hh rfl (.ev 71 (some a) fun b e=>by cases e;exact hE)⟩,hq,e⟩
theorem laid_list:laidL.filter (fun x=>x.2.handleName?.isNone) = [("math/bits.deBruijn32tab",Rows.laid_math_bits_deBruijn32tab),("math/bits.deBruijn64tab",Rows.laid_math_bits_deBruijn64tab),
    ("internal/strconv.uint64pow10",Lib.tabData .u64 Lib.pow10Tab),("unicode/utf8.acceptRanges",Rows.laid_unicode_utf8_acceptRanges),
    ("oriel/script.ErrLong",Rows.laid_oriel_script_ErrLong),("oriel/script.ErrWord",Rows.laid_oriel_script_ErrWord),("oriel/script.ErrNumber",Rows.laid_oriel_script_ErrNumber),
    ("oriel/script.ErrText",Rows.laid_oriel_script_ErrText),("oriel/script.ErrEnd",Rows.laid_oriel_script_ErrEnd),("unicode/utf8.first",Rows.laid_unicode_utf8_first)]:=by kernel_rfl
/-- The addresses given, and others beyond the memory. -/
def fOf (a:Nat → Addr) (n:Nat) (i:Nat):Addr:=if i < 5 then a i else ⟨n + i,0,none⟩
theorem fOf_inj {a:Nat → Addr} {n:Nat} (h:∀ i j,i < 5 → j < 5 → a i = a j → i = j) (hb:∀ i,i < 5 → (a i).block < n):∀ i j,fOf a n i = fOf a n j → i = j:=by
  intro i j e
  unfold fOf at e
  split at e <;> split at e
  · exact h i j ‹_› ‹_› e
  · have h1:=hb i ‹_›
    rw [e] at h1;simp only at h1;omega
  · have h1:=hb j ‹_›
    rw [← e] at h1;simp only at h1;omega
  · have:=congrArg Addr.block e
    simp only at this;omega
def aOf (a0 a1 a2 a3 a4:Addr):Nat → Addr
  | 0=>a0
  | 1=>a1
  | 2=>a2
  | 3=>a3
  | _=>a4
theorem En_globals {W:World} (h:laidMetH Tryd.prog laidL W) :
    ∃ S:Sent34,∀ g cells,lget (@En S).G g = some cells → VR W sig0 av0 (.rop cells 0) (.pointer (some ⟨g,0,none⟩)):=by
  have h':laidMet Tryd.prog (laidL.filter fun x=>x.2.handleName?.isNone) W ∧ handlesMet Tryd.prog [("errors.errorType",Rows.laid_errors_errorType)] W:=h
  rw [laid_list] at h'
  obtain ⟨⟨ps,hv,hnd,hr⟩,hh⟩:=h'
  have hr:RowsOk Tryd.prog W ps:=hr
  obtain ⟨name,u,ty,e1,e2,e3,e4,e5⟩:=hh _ (List.mem_singleton.2 rfl)
  have en:name = [101,114,114,111,114]:=(Option.some.inj e1).symm
  subst en
  obtain rfl:=Option.some.inj (rtT.symm.trans e2)
  have hm:ty ∈ (List.range 303).filter fun t=>Tryd.prog.rowNamed t [101,114,114,111,114]:=List.mem_filter.2 ⟨List.mem_range.2 (Nat.lt_of_lt_of_le e3 size),e4⟩
  rw [oneRow] at hm
  obtain rfl:=List.mem_singleton.1 hm
  rw [handle25] at e5
  obtain ⟨T5,fr5,hh5⟩:=var_heap e5 g5
  obtain ⟨_,q1,hv1,u1⟩:=pop_skip hv
  obtain ⟨_,q2,hv2,u2⟩:=pop_skip hv1
  obtain ⟨gp,tp,cp,fp,pp,q3,hgp,htp,hvp,hdp,hv3,u3⟩:=hv2
  obtain rfl:=Option.some.inj (g7.symm.trans hgp)
  obtain rfl:=Option.some.inj (t7.symm.trans htp)
  have hcp:cp.toList = Lib.pow10Tab.map fun z=>Value.int .u64 z:=Lib.cells_of_tab (k:=.u64) Tryd.underlying166 Tryd.underlying155 (by kernel_rfl) (by kernel_rfl) hdp
  obtain ⟨T7,fr7,hh7⟩:=var_heap hvp g7
  obtain ⟨_,q4,hv4,u4⟩:=pop_skip hv3
  have r1:RowsOk Tryd.prog W q1:=(u1 ▸ hr).right
  have r2:RowsOk Tryd.prog W q2:=(u2 ▸ r1).right
  have r3:RowsOk Tryd.prog W q3:=(u3 ▸ r2).right
  have r4:RowsOk Tryd.prog W q4:=(u4 ▸ r3).right
  obtain ⟨a3,q5,k3,hv5,u5⟩:=pop g3 (by kernel_rfl) r4 hv4
  have r5:RowsOk Tryd.prog W q5:=(u5 ▸ r4).right
  obtain ⟨a1,q6,k1,hv6,u6⟩:=pop g1 (by kernel_rfl) r5 hv5
  have r6:RowsOk Tryd.prog W q6:=(u6 ▸ r5).right
  obtain ⟨a4,q7,k4,hv7,u7⟩:=pop g4 (by kernel_rfl) r6 hv6
  have r7:RowsOk Tryd.prog W q7:=(u7 ▸ r6).right
  obtain ⟨a0,q8,k0,hv8,u8⟩:=pop g0 (by kernel_rfl) r7 hv7
  have r8:RowsOk Tryd.prog W q8:=(u8 ▸ r7).right
  obtain ⟨a2,q9,k2,hv9,u9⟩:=pop g2 (by kernel_rfl) r8 hv8
  have n1:q1.Nodup:=(List.nodup_append.1 (u1 ▸ hnd)).2.1
  have n2:q2.Nodup:=(List.nodup_append.1 (u2 ▸ n1)).2.1
  have n3:q3.Nodup:=(List.nodup_append.1 (u3 ▸ n2)).2.1
  have n4:q4.Nodup:=(List.nodup_append.1 (u4 ▸ n3)).2.1
  rw [u5,u6,u7,u8,u9] at n4
  simp only [List.cons_append,List.nil_append,List.nodup_cons,List.mem_cons,not_or] at n4
  obtain ⟨_,⟨_,d31,_,d34,_,d30,_,d32,_⟩,_,⟨_,d14,_,d10,_,d12,_⟩,_,⟨_,d40,_,d42,_⟩,_,⟨_,d02,_⟩,_⟩:=n4
  have d31:=ne_of_places d31
  have d34:=ne_of_places d34
  have d30:=ne_of_places d30
  have d32:=ne_of_places d32
  have d14:=ne_of_places d14
  have d10:=ne_of_places d10
  have d12:=ne_of_places d12
  have d40:=ne_of_places d40
  have d42:=ne_of_places d42
  have d02:=ne_of_places d02
  have hb:∀ i,i < 5 → (aOf a0 a1 a2 a3 a4 i).block < W.heap.size:=fun i hi=>
    match i,hi with
    | 0,_=>k0.1.lt
    | 1,_=>k1.1.lt
    | 2,_=>k2.1.lt
    | 3,_=>k3.1.lt
    | 4,_=>k4.1.lt
  have hi:∀ i j,i < 5 → j < 5 → aOf a0 a1 a2 a3 a4 i = aOf a0 a1 a2 a3 a4 j → i = j:=by
    intro i j hi hj e
    rcases i with _ | _ | _ | _ | _ | i
    all_goals try omega
    all_goals rcases j with _ | _ | _ | _ | _ | j
    all_goals try omega
    all_goals try rfl
    all_goals simp only [aOf] at e
    all_goals first | exact absurd e d31 | exact absurd e.symm d31 | exact absurd e d34 | exact absurd e.symm d34 | exact absurd e d30 | exact absurd e.symm d30 | exact absurd e d32 | exact absurd e.symm d32 | exact absurd e d14 | exact absurd e.symm d14 | exact absurd e d10 | exact absurd e.symm d10 | exact absurd e d12 | exact absurd e.symm d12 | exact absurd e d40 | exact absurd e.symm d40 | exact absurd e d42 | exact absurd e.symm d42 | exact absurd e d02 | exact absurd e.symm d02
  refine ⟨⟨fOf (aOf a0 a1 a2 a3 a4) W.heap.size,fOf_inj hi hb⟩,fun g cells hg=>?_⟩
  simp only [En,gtPV,GT,SentA.extra,List.map_cons,List.map_nil,List.cons_append,List.nil_append,lget] at hg
  split at hg
  · rename_i e;subst e;simp at hg;subst hg;exact k0.2
  split at hg
  · rename_i e;subst e;simp at hg;subst hg;exact k1.2
  split at hg
  · rename_i e;subst e;simp at hg;subst hg;exact k2.2
  split at hg
  · rename_i e;subst e;simp at hg;subst hg;exact k3.2
  split at hg
  · rename_i e;subst e;simp at hg;subst hg;exact k4.2
  split at hg
  · rename_i e;subst e;simp at hg;subst hg
    exact rop1 hh5 rfl (.xc 5 errT T5 fr5 _ rfl (av0_no _) (by simpa [errT] using hh5))
  split at hg
  · rename_i e;subst e;simp at hg;subst hg
    have hcp':cp = p10T.toArray:=by apply Array.toList_inj.1;rw [hcp];rfl
    subst hcp'
    exact rop1 (v:=.int .u64 1) hh7 (by kernel_rfl) (.xc 7 p10T T7 fr7 _ rfl (av0_no _) hh7)
  simp at hg
end Go.Proofs.YtaildpaandndgaaDoor
set_option maxRecDepth 100000
namespace Go.SH
abbrev KEv:ET:=.tp (.ti .i64) K5605
end Go.SH
namespace Go.Proofs.YtaildpaandndgaaDoor
open Go.ChangeShapes Go.WideShapes Go.ChangeAt Go.RowKit Go.Joins Go.SH
section
variable {H:Type} {enc:TypeId × Value → H} {W:World} {base:Nat} {v:Value} {d:DataW H} {p:List MemPlace}
theorem fit_deed:Fit Tryd.prog (.tp (.ti .i64) K6f24) [52]:=
  .struct Tryd.underlying52 (by kernel_rfl) (.cons (.int Tryd.underlying49) (.cons (.slice Tryd.underlying50 (by kernel_rfl) (.u8 Tryd.underlying5)) (.cons (.int Tryd.underlying3) (.int Tryd.underlying3))))
theorem fit_event:Fit Tryd.prog KEv [54]:=
  .struct Tryd.underlying54 (by kernel_rfl) (.cons (.int Tryd.underlying47) (.cons (.int Tryd.underlying3) (.cons (.int Tryd.underlying3) (.cons (.int Tryd.underlying3) (.cons (.int Tryd.underlying48) (.cons fit_deed (.slice Tryd.underlying50 (by kernel_rfl) (.u8 Tryd.underlying5))))))))
variable [Sent34]
theorem okI_wf {n:Int} (h:(ET.ti .i64).wf n):okI n:=by
  have h':(Lit.int .i64 n).wf = true:=h
  simp [Lit.wf,IntKind.min,IntKind.max,IntKind.signed,IntKind.bits] at h'
  unfold okI;omega
theorem okE_wf {a:EvT} (h:KEv.wf a):okI a.2.1 ∧ okI a.2.2.1 ∧ okI a.2.2.2.1 ∧ okI a.2.2.2.2.2.1.2.2.1 ∧ okI a.2.2.2.2.2.1.2.2.2:=
  ⟨okI_wf h.2.1,okI_wf h.2.2.1,okI_wf h.2.2.2.1,okI_wf h.2.2.2.2.2.1.2.2.1,okI_wf h.2.2.2.2.2.1.2.2.2⟩
end
end Go.Proofs.YtaildpaandndgaaDoor
set_option maxRecDepth 100000
namespace Go.Proofs.YtaildpaandndgaaDoor
open Go.ChangeShapes Go.WideShapes Go.ChangeAt Go.RowKit Go.Joins Go.SH
section
variable {H:Type}
theorem bulk_pos (d:DataW H):1 ≤ Rows.uptoBulk d:=by
  cases d with
  | lit l=>cases l <;> simp [Rows.uptoBulk]
  | _=>simp [Rows.uptoBulk]
theorem bulk_mem {d:DataW H}:∀ {l:List (DataW H)},d ∈ l → Rows.uptoBulk d ≤ Rows.uptoBulkAll l
  | x :: r,h=>by
    simp only [Rows.uptoBulkAll]
    rcases List.mem_cons.1 h with e | e
    · subst e;omega
    · have:=bulk_mem e;omega
theorem bulk_len:∀ (l:List (DataW H)),l.length ≤ Rows.uptoBulkAll l
  | []=>by simp
  | x :: r=>by
    have h1:=bulk_pos x
    have h2:=bulk_len r
    simp only [Rows.uptoBulkAll,List.length_cons];omega
variable [Sent34]
theorem slice_bulk {P:Program} {enc:TypeId × Value → H} {w:World} {base:Nat} {sp:Nat → Bool} {held:Bool} {τ e:TypeId} {n:Nat} {cells:List PV} {v:Value} (hu:P.underlying τ = some (.slice e)) (hv:VR w sig0 av0 (.ro cells n none) v) {fuel:Nat} {y:DataW H × List MemPlace}
    (ht:DataW.trod enc P w base sp held fuel τ [v] = some y):n ≤ Rows.uptoBulk y.1:=by
  rcases DataW.trod_slice hu ht with ⟨hcs,_⟩ | ⟨a,len,cap,elems,rest,m,_,hcs,rfl,_,_,_,hlen,_⟩
  · obtain rfl:v = .slice none 0 0:=by simpa using hcs
    cases hv
    simp
  · obtain rfl:v = .slice (some a) len cap:=by simpa using hcs
    have hn:n = len:=by cases hv <;> rfl
    subst hn
    have:=bulk_len (elems.map (·.1))
    simp only [List.length_map,hlen] at this
    simp only [Rows.uptoBulk]
    omega
theorem event_bulk {enc:TypeId × Value → H} {W:World} {sp:Nat → Bool} {cs:Array Value} {d:DataW H} {p:List MemPlace} (h:DataW.Trod enc Tryd.prog W 0 sp true 54 (.agg cs) d p)
    {x:KEv.T} (hs:VRs W sig0 av0 ((el KEv).pv x) cs.toList):x.2.2.2.2.2.2.length ≤ Rows.uptoBulk d:=by
  obtain ⟨fuel,hf⟩:=h
  have hc:(Value.agg cs).cells.toList = cs.toList:=by simp [Value.cells]
  rw [hc] at hf
  obtain ⟨xs,n,_,he,hl,hxl,hfs⟩:=DataW.trod_struct Tryd.underlying54 hf
  obtain rfl:d = .agg (xs.map (·.1)):=congrArg Prod.fst he
  have h10:cs.toList.length = 10:=hl.trans (by kernel_rfl)
  have hB:=hfs 6 _ rfl
  have h1:Tryd.prog.cellsOf 50 = 1:=by kernel_rfl
  have hd:(cs.toList.drop 9).take 1 = [cs.toList[9]'(by omega)]:=by
    rw [List.drop_eq_getElem_cons (by omega)];rfl
  have hB':DataW.trod enc Tryd.prog W 0 sp true n 50 ((cs.toList.drop 9).take (Tryd.prog.cellsOf 50)) = xs[6]?:=hB
  rw [h1,hd] at hB'
  have hx6:6 < xs.length:=by rw [hxl];decide
  rw [List.getElem?_eq_getElem hx6] at hB'
  have:=slice_bulk Tryd.underlying50 (hs.get.2 9 _ _ rfl (List.getElem?_eq_getElem (by omega))) hB'
  have hm:=bulk_mem (d:=xs[6].1) (l:=xs.map (·.1)) (List.mem_map.2 ⟨xs[6],List.getElem_mem hx6,rfl⟩)
  simp only [Rows.uptoBulk]
  omega
theorem open_event' {enc:TypeId × Value → H} {W:World} {base:Nat} {v:Value} {d:DataW H} {p:List MemPlace} (hval:Value.okWide Tryd.prog W .any base 54 v) (h:DataW.Trod enc Tryd.prog W 0 (fun _=>true) true 54 v d p) :
    ∃ x:KEv.T,VR W sig0 av0 (.agg ((el KEv).pv x)) v ∧ KEv.wf x ∧ x.2.2.2.2.2.2.length ≤ Rows.uptoBulk d:=by
  obtain ⟨cs,rfl,hz⟩:=open_st hval Tryd.underlying54
  obtain ⟨x,h1,h3,h2⟩:=open_agg fit_event hz h
  exact ⟨x,h1,h2,event_bulk h h3⟩
end
end Go.Proofs.YtaildpaandndgaaDoor
set_option maxRecDepth 100000
namespace Go.Proofs.YtaildpaandndgaaDoor
open Go Go.ChangeShapes Go.WideShapes Go.ChangeAt Go.RowKit Go.Joins Go.SH
theorem law_pure [Sent34] (a0:Int) (a1:EvT) (wf1:KEv.wf a1) (hb:a1.2.2.2.2.2.2.length < 40000000000000):Pure En 9 [.int .i64 a0,.agg ((el KEv).pv a1)] (.bool true):=
  oriellaw34_ScriptMany_c.ok (a0,a1) true (many_true (okE_wf wf1) hb a0)
abbrev zeroEv:Value:=.agg #[.int .i64 0,.int .i64 0,.int .i64 0,.int .i64 0,.int .i64 0,.int .i64 0,.slice none 0 0,.int .i64 0,.int .i64 0,.slice none 0 0]
theorem contract (H:Type) (enc:TypeId × Value → H) (W:World) (base:Nat) (args:Array Value) (ds gs:List (DataW H)) (before:List MemPlace)
    (hval0:∀ (j:Nat) t v,Tryd.f9.params[j]? = some t → args[j]? = some v → Value.okWide Tryd.prog W .any base t v)
    (hW:DataW.Whole enc Tryd.prog Tryd.f9.params.toList Rows.scriptManySpec.vars false W args.toList ds gs before) (hL:laidMetH Tryd.prog laidL W) (hk:Rows.uptoSmall H (ds ++ gs) = true) :
    Calls Tryd.prog 9 args W fun e W'=>∃ v,e = .returned v ∧ Rows.scriptManySpec.post enc Tryd.prog Tryd.f9 false true false false W args v W':=by
  have hval:∀ (j:Nat) t v,Tryd.f9.params[j]? = some t → args[j]? = some v → Value.okWide Tryd.prog W .any base t v:=hval0
  have hW':=hW
  obtain ⟨p,q,hA0,hV,rfl,hfz,hnd⟩:=hW
  have hA:DataW.TrodAll enc Tryd.prog W 0 (fun _=>true) true Tryd.f9.params.toList args.toList ds p:=hA0
  rw [Tryd.params9] at hA hval
  obtain ⟨v0,vs0,d0,ds0,p0,q0,ha0,rfl,rfl,h0,hA⟩:=trodAll_cons hA
  obtain ⟨v1,vs1,d1,ds1,p1,q1,rfl,rfl,rfl,h1,hA⟩:=trodAll_cons hA
  obtain ⟨rfl,rfl,rfl⟩:=trodAll_nil hA
  have hargs:args = #[v0,v1]:=by
    apply Array.toList_inj.1;rw [ha0]
  subst hargs
  obtain ⟨rfl,rfl⟩:=trodVars_none hV
  have ltp:∀ {t:TypeId} {v:Value} {d:DataW H} {p:List MemPlace},DataW.Trod enc Tryd.prog W 0 (fun _=>true) true t v d p → ∀ x ∈ p,x.block < W.heap.size:=fun h=>by obtain ⟨m,hm⟩:=h;exact DataW.trod_lt m _ _ _ hm
  obtain ⟨S,hS⟩:=En_globals hL
  letI:Sent34:=S
  have hkk:Rows.uptoBulkAll (([d0,d1]:List (DataW H)) ++ []) ≤ 1048576:=of_decide_eq_true hk
  have hd1:=bulk_mem (d:=d1) (l:=([d0,d1]:List (DataW H)) ++ []) (by simp)
  have h0':=h0
  obtain ⟨n0,rfl,rfl,rfl,w0⟩:=open_int Tryd.underlying3 (hval 0 3 v0 rfl rfl) h0'
  have hv0:VR W sig0 av0 (.int .i64 n0) (.int .i64 n0):=.int _ _
  obtain ⟨n1,hv1,w1,b1⟩:=open_event' (hval 1 54 v1 rfl rfl) h1
  refine (law_calls' (law_pure n0 n1 w1 (by omega)) W [.int .i64 n0,v1]
    (.cons hv0 (.cons hv1 .nil)) hS).mono fun e W' ⟨he,bel⟩=>?_
  subst he
  exact ⟨_,rfl,_,_,_,[],_,[],hW',trodAll_mk1 (shut_bool Tryd.underlying4 _),
    (trodAll_cons_mk (Below.trod laidOut (by kernel_rfl) (of_decide_eq_true (by kernel_rfl)) h0 bel (ltp h0)) (trodAll_cons_mk (Below.trod laidOut (by kernel_rfl) (of_decide_eq_true (by kernel_rfl)) h1 bel (ltp h1)) trodAll_mk0)),rfl,bel.frame _,fun h=>by cases h⟩
theorem reads (os:Os) {H:Type} (enc:TypeId × Value → H):(DataW.whole enc Tryd.prog ((laidWorld os).forCall (fun _ _=>0) ⟨#[],#[.int .i64 0,zeroEv],[]⟩).memory Tryd.f9.params.toList Rows.scriptManySpec.vars false #[Value.int .i64 0,zeroEv].toList 8).map (fun x=>(x.1,x.2.1)) =
    some ([.lit (.int .i64 0),.agg [.lit (.int .i64 0),.lit (.int .i64 0),.lit (.int .i64 0),.lit (.int .i64 0),.lit (.int .i64 0),.agg [.lit (.int .i64 0),.nil,.lit (.int .i64 0),.lit (.int .i64 0)],.nil]],[]):=by kernel_rfl
theorem liftedUpto (os:Os) (started:os.Started) (H:Type) (enc:TypeId × Value → H) (F:Stop.Interp) :
    ReturnsInHanded {} Tryd.checked os 9 .any ((Rows.OpenSpec.upto Rows.scriptManySpec).preRow enc Tryd.prog Tryd.f9 Rows.scriptManyUptoRow.domain false Rows.scriptManyUptoRow.laid) (((Rows.OpenSpec.upto Rows.scriptManySpec).at F).post enc Tryd.prog Tryd.f9 false true false false):=by
  obtain ⟨⟨x1,x2,x3⟩,hx,hx1⟩:=Option.map_eq_some_iff.1 (reads os enc)
  simp only [Prod.mk.injEq] at hx1
  obtain ⟨rfl,rfl⟩:=hx1
  refine returnsInHanded_of_row (C:=Tryd.checked) (s:=Rows.OpenSpec.upto Rows.scriptManySpec) own started (by kernel_rfl) Tryd.func9
    (witness_row_atRef (enc:=enc) (C:=Tryd.checked) false (laidWorld os) #[.int .i64 0,zeroEv] rfl (by kernel_rfl) (by kernel_rfl) (by kernel_rfl)
      (OpenSpec.preRow_of_cond 8 hx (by kernel_rfl) (fun k hk=>by cases hk;kernel_rfl) (by kernel_rfl) (door_met os _))) ?_
  intro W base args ds gs before hval hW _ hcond _ hL _ _
  exact contract H enc W base args ds gs before hval hW hL (hcond _ rfl)
theorem law_row:Rows.ScriptManyUptoSaid:=
  OpenClaim.holds_of_cond 9 Tryd.f9 rfl rfl rfl rfl rfl rfl rfl ⟨rfl,rfl,rfl,rfl,rfl⟩ rfl rfl rfl rfl rfl (by kernel_rfl) Tryd.func9 (by kernel_rfl)
    (of_decide_eq_true (by kernel_rfl)) (by unfold Func.isWrapper;first | (rw [if_pos (by decide +kernel)];kernel_rfl) | (rw [if_neg (by decide +kernel)];exact ⟨rfl,rfl⟩))
    (fun os started H enc _ F=>by rw [OpenClaim.pre_eq_preRow];exact liftedUpto os started H enc F)
theorem script_many_upto_holds:Rows.ScriptManyUptoCardSaid:=
  Claim7.holds_tied_plain_at .later [] [.data,.data,.data,.data,.handle,.sentinel,.sentinel,.sentinel,.sentinel,.sentinel,.pinned] true (true,"697d90f6e5e2e597adb7f51ee71aadf481d62156e225e93a54c51917f338d07c") true
    law_row (fun _ h=>by cases h) (by kernel_rfl) (fun _ h=>by cases h) scriptManyUpto_row_tie rfl ⟨rfl,rfl⟩ (by kernel_rfl) rfl
    (fun f fn hf hfn=>by
      obtain rfl:f = 9:=Option.some.inj ((show Tryd.prog.funcNamed "oriel/oriellaw34.ScriptMany" = some 9 by kernel_rfl).symm.trans hf) |>.symm
      obtain rfl:fn = Tryd.f9:=(Option.some.inj (Tryd.func9.symm.trans hfn)).symm
      exact ⟨by kernel_rfl,fun j t ht=>by
        rw [Tryd.params9] at ht
        have hm:t ∈ [3,54]:=by simpa using Array.mem_of_getElem? ht
        have hall:([3,54].all fun u=>!Tryd.prog.wantsStandIn u) = true:=by kernel_rfl
        exact (show Tryd.prog.wantsStandIn t = false by simpa using List.all_eq_true.1 hall t hm)⟩)
    (by kernel_rfl)
end Go.Proofs.YtaildpaandndgaaDoor
