/- ScriptFaults -/
import Derived.Test.YtaildpaandndgaaDoorC
import Derived.KernelRfl
import Derived.Test.YtaildpaandndgaaDoorRows
import Derived.ProofKit
import Derived.LaidMore
import Derived.LaidHandle
import Derived.OpenShut
import Derived.ChangeMaps5
import Derived.Stop.Joined
import Derived.Stop.LaidErr
import Derived.Lib.LaidTab
import Derived.Lib.LaidU8
import Derived.Lib.SmallJoins
import Derived.Test.YtaildpaandndgaaDoorTie
import Derived.Test.YtaildpaandndgaaDoorCards
import Derived.SevenTiedAt
set_option linter.unusedVariables false
set_option linter.unusedSimpArgs false
set_option linter.unusedSectionVars false
set_option maxRecDepth 100000
namespace Go.SH
open Go.Proofs
variable [Sent34]
theorem script_Fault_Error_784_dq (a:HT (Sh.hss [.k .nilp])):DF En GT noC Tryd.f17.ntmps Tryd.f17.results.toList (bodyOf Tryd.f17) .leaf [.k .nilp] (.h .ts) a = script_Fault_Error_784:=by kernel_rfl
noncomputable def script_Fault_Error_784_c:PCon En:=⟨17,[.k .nilp],.h .ts,fun a=>script_Fault_Error_784,Tryd.call17,fun a v h=>DF_ok rfl En_mixed rfl En_ok Tryd.func17 rfl rfl (by decide) ((script_Fault_Error_784_dq a).trans h)⟩
theorem script_Fault_Unwrap_784_dq (a:HT (Sh.hss [.k .nilp])):DF En GT noC Tryd.f18.ntmps Tryd.f18.results.toList (bodyOf Tryd.f18) .leaf [.k .nilp] (.k .nili) a = script_Fault_Unwrap_784:=by kernel_rfl
noncomputable def script_Fault_Unwrap_784_c:PCon En:=⟨18,[.k .nilp],.k .nili,fun a=>script_Fault_Unwrap_784,Tryd.call18,fun a v h=>DF_ok rfl En_mixed rfl En_ok Tryd.func18 rfl rfl (by decide) ((script_Fault_Unwrap_784_dq a).trans h)⟩
def script_Fault_Error_d52_ar:List Sh:=[.ptr 0 0]
def script_Fault_Error_d52_ls:List (Nat × LSh):=[(0,.cs [.h (.ti .i64),.k .nili])]
def script_Fault_Error_d52_ot:Tm:=⟨[(0,.h .ts)],[],[],[],[]⟩
theorem script_Fault_Error_d52_dq (a:HT (Sh.hss script_Fault_Error_d52_ar ++ hsL script_Fault_Error_d52_ls)):DI En GT noC Tryd.f17.ntmps Tryd.f17.results.toList (bodyOf Tryd.f17) .leaf script_Fault_Error_d52_ar script_Fault_Error_d52_ls script_Fault_Error_d52_ot a = script_Fault_Error_d52:=by kernel_rfl
noncomputable def script_Fault_Error_d52_c:ICon En:=⟨17,script_Fault_Error_d52_ar,script_Fault_Error_d52_ls,script_Fault_Error_d52_ot,fun a=>script_Fault_Error_d52,Tryd.call17,fun a v h=>DI_ok rfl En_mixed rfl En_ok Tryd.func17 rfl ⟨rfl,rfl,rfl,rfl⟩ ((script_Fault_Error_d52_dq a).trans h)⟩
def script_Fault_Unwrap_d52_ar:List Sh:=[.ptr 0 0]
def script_Fault_Unwrap_d52_ls:List (Nat × LSh):=[(0,.cs [.h (.ti .i64),.k .nili])]
def script_Fault_Unwrap_d52_ot:Tm:=⟨[(0,.k .nili)],[],[],[],[]⟩
theorem script_Fault_Unwrap_d52_dq (a:HT (Sh.hss script_Fault_Unwrap_d52_ar ++ hsL script_Fault_Unwrap_d52_ls)):DI En GT noC Tryd.f18.ntmps Tryd.f18.results.toList (bodyOf Tryd.f18) .leaf script_Fault_Unwrap_d52_ar script_Fault_Unwrap_d52_ls script_Fault_Unwrap_d52_ot a = script_Fault_Unwrap_d52:=by kernel_rfl
noncomputable def script_Fault_Unwrap_d52_c:ICon En:=⟨18,script_Fault_Unwrap_d52_ar,script_Fault_Unwrap_d52_ls,script_Fault_Unwrap_d52_ot,fun a=>script_Fault_Unwrap_d52,Tryd.call18,fun a v h=>DI_ok rfl En_mixed rfl En_ok Tryd.func18 rfl ⟨rfl,rfl,rfl,rfl⟩ ((script_Fault_Unwrap_d52_dq a).trans h)⟩
def errors_New_6f3_ar:List Sh:=[.h .ts]
def errors_New_6f3_ls:List (Nat × LSh):=[]
def errors_New_6f3_ot:Tm:=⟨[(0,.iface 71 (.ptr 0 0))],[],[(0,.cs [.h .ts])],[],[]⟩
theorem errors_New_6f3_dq (a:HT (Sh.hss errors_New_6f3_ar ++ hsL errors_New_6f3_ls)):DI En GT noC Tryd.f20.ntmps Tryd.f20.results.toList (bodyOf Tryd.f20) .leaf errors_New_6f3_ar errors_New_6f3_ls errors_New_6f3_ot a = errors_New_6f3 a:=by kernel_rfl
noncomputable def errors_New_6f3_c:ICon En:=⟨20,errors_New_6f3_ar,errors_New_6f3_ls,errors_New_6f3_ot,fun a=>errors_New_6f3 a,Tryd.call20,fun a v h=>DI_ok rfl En_mixed rfl En_ok Tryd.func20 rfl ⟨rfl,rfl,rfl,rfl⟩ ((errors_New_6f3_dq a).trans h)⟩
def script_Fault_Error_af6_ar:List Sh:=[.ptr 0 0]
def script_Fault_Error_af6_ls:List (Nat × LSh):=[(0,.cs [.h (.ti .i64),.iface 35 (.ptr 1 0)]),(1,.cs [.h (.ti .i64),.h (.te 71)])]
def script_Fault_Error_af6_ot:Tm:=⟨[(0,.h .ts)],[],[],[],[]⟩
theorem script_Fault_Error_af6_dq (a:HT (Sh.hss script_Fault_Error_af6_ar ++ hsL script_Fault_Error_af6_ls)):DI En GT (cl [itoa_c] [isP_c]) Tryd.f17.ntmps Tryd.f17.results.toList (bodyOf Tryd.f17) (.seq .leaf (.seq .leaf (.seq .leaf (.join ⟨[(3,.h .ts)],[13,14,15,16,17,18,19,20,21,22,23,24,25,26,27,28,29,30,31,32,33,34,35,36,37,38,39,40,41,42,43,44,45,46,47],[],[],[]⟩ (.blk (.join ⟨[(13,.h .tb)],[14,15,16,17,18,19],[],[],[]⟩ (.reg [(5,{io:=some 0}),(6,{split:=true})]) (.cond .leaf (.join ⟨[(20,.h .tb)],[21,22,23,24,25,26],[],[],[]⟩ (.reg [(5,{io:=some 0}),(6,{split:=true})]) (.cond .leaf (.join ⟨[(27,.h .tb)],[28,29,30,31,32,33],[],[],[]⟩ (.reg [(5,{io:=some 0}),(6,{split:=true})]) (.cond .leaf (.join ⟨[(34,.h .tb)],[35,36,37,38,39,40],[],[],[]⟩ (.reg [(5,{io:=some 0}),(6,{split:=true})]) (.cond .leaf (.join ⟨[(41,.h .tb)],[42,43,44,45,46,47],[],[],[]⟩ (.reg [(5,{io:=some 0}),(6,{split:=true})]) .leaf)))))))))) (.seq (.reg [(4,{con:=0})]) .leaf))))) script_Fault_Error_af6_ar script_Fault_Error_af6_ls script_Fault_Error_af6_ot a = script_Fault_Error_af6 a.1 a.2.2:=by kernel_rfl
noncomputable def script_Fault_Error_af6_c:ICon En:=⟨17,script_Fault_Error_af6_ar,script_Fault_Error_af6_ls,script_Fault_Error_af6_ot,fun a=>script_Fault_Error_af6 a.1 a.2.2,Tryd.call17,fun a v h=>DI_ok rfl En_mixed rfl En_ok Tryd.func17 rfl ⟨rfl,rfl,rfl,rfl⟩ ((script_Fault_Error_af6_dq a).trans h)⟩
def script_Fault_Error_909_ar:List Sh:=[.ptr 0 0]
def script_Fault_Error_909_ls:List (Nat × LSh):=[(0,.cs [.h (.ti .i64),.iface 71 (.ptr 1 0)]),(1,.cs [.h .ts])]
def script_Fault_Error_909_ot:Tm:=⟨[(0,.h .ts)],[],[],[],[]⟩
theorem script_Fault_Error_909_dq (a:HT (Sh.hss script_Fault_Error_909_ar ++ hsL script_Fault_Error_909_ls)):DI En GT (cl [itoa_c] [isN_c]) Tryd.f17.ntmps Tryd.f17.results.toList (bodyOf Tryd.f17) (.seq .leaf (.seq .leaf (.seq .leaf (.join ⟨[(3,.h .ts)],[13,14,15,16,17,18,19,20,21,22,23,24,25,26,27,28,29,30,31,32,33,34,35,36,37,38,39,40,41,42,43,44,45,46,47],[],[],[]⟩ (.blk (.join ⟨[(13,.h .tb)],[14,15,16,17,18,19],[],[],[]⟩ (.reg [(5,{io:=some 0}),(6,{split:=true})]) (.cond .leaf (.join ⟨[(20,.h .tb)],[21,22,23,24,25,26],[],[],[]⟩ (.reg [(5,{io:=some 0}),(6,{split:=true})]) (.cond .leaf (.join ⟨[(27,.h .tb)],[28,29,30,31,32,33],[],[],[]⟩ (.reg [(5,{io:=some 0}),(6,{split:=true})]) (.cond .leaf (.join ⟨[(34,.h .tb)],[35,36,37,38,39,40],[],[],[]⟩ (.reg [(5,{io:=some 0}),(6,{split:=true})]) (.cond .leaf (.join ⟨[(41,.h .tb)],[42,43,44,45,46,47],[],[],[]⟩ (.reg [(5,{io:=some 0}),(6,{split:=true})]) .leaf)))))))))) (.seq (.reg [(4,{con:=0})]) .leaf))))) script_Fault_Error_909_ar script_Fault_Error_909_ls script_Fault_Error_909_ot a = script_Fault_Error_909 a.1:=by kernel_rfl
noncomputable def script_Fault_Error_909_c:ICon En:=⟨17,script_Fault_Error_909_ar,script_Fault_Error_909_ls,script_Fault_Error_909_ot,fun a=>script_Fault_Error_909 a.1,Tryd.call17,fun a v h=>DI_ok rfl En_mixed rfl En_ok Tryd.func17 rfl ⟨rfl,rfl,rfl,rfl⟩ ((script_Fault_Error_909_dq a).trans h)⟩
def script_Fault_Error_089_ar:List Sh:=[.ptr 0 0]
def script_Fault_Error_089_ls:List (Nat × LSh):=[(0,.cs [.h (.ti .i64),.h (.te 71)])]
def script_Fault_Error_089_ot:Tm:=⟨[(0,.h .ts)],[],[],[],[]⟩
theorem script_Fault_Error_089_dq (a:HT (Sh.hss script_Fault_Error_089_ar ++ hsL script_Fault_Error_089_ls)):DI En GT (cl [isE_c,itoa_c] []) Tryd.f17.ntmps Tryd.f17.results.toList (bodyOf Tryd.f17) (.seq .leaf (.seq (.join ⟨[(12,.h .tb)],[4,5,6,7,8,9,10,11],[],[],[]⟩ (.reg [(8,{split:=true})]) .leaf) (.seq .leaf (.join ⟨[(3,.h .ts)],[13,14,15,16,17,18,19,20,21,22,23,24,25,26,27,28,29,30,31,32,33,34,35,36,37,38,39,40,41,42,43,44,45,46,47],[],[],[]⟩ (.blk (.join ⟨[(13,.h .tb)],[14,15,16,17,18,19],[],[],[]⟩ (.reg [(5,{con:=0}),(6,{split:=true})]) (.cond .leaf (.join ⟨[(20,.h .tb)],[21,22,23,24,25,26],[],[],[]⟩ (.reg [(5,{con:=0}),(6,{split:=true})]) (.cond .leaf (.join ⟨[(27,.h .tb)],[28,29,30,31,32,33],[],[],[]⟩ (.reg [(5,{con:=0}),(6,{split:=true})]) (.cond .leaf (.join ⟨[(34,.h .tb)],[35,36,37,38,39,40],[],[],[]⟩ (.reg [(5,{con:=0}),(6,{split:=true})]) (.cond .leaf (.join ⟨[(41,.h .tb)],[42,43,44,45,46,47],[],[],[]⟩ (.reg [(5,{con:=0}),(6,{split:=true})]) .leaf)))))))))) (.seq (.reg [(4,{con:=1})]) .leaf))))) script_Fault_Error_089_ar script_Fault_Error_089_ls script_Fault_Error_089_ot a = script_Fault_Error_089 a.1 a.2:=by kernel_rfl
noncomputable def script_Fault_Error_089_c:ICon En:=⟨17,script_Fault_Error_089_ar,script_Fault_Error_089_ls,script_Fault_Error_089_ot,fun a=>script_Fault_Error_089 a.1 a.2,Tryd.call17,fun a v h=>DI_ok rfl En_mixed rfl En_ok Tryd.func17 rfl ⟨rfl,rfl,rfl,rfl⟩ ((script_Fault_Error_089_dq a).trans h)⟩
theorem oriellaw34_ScriptFaults_dq (a:HT (Sh.hss [.h (.ti .i64)])):DF En GT (cl [oriellaw34_known_c,script_Fault_Error_784_c,script_Fault_Unwrap_784_c,orielref12_Digits_c] [script_Fault_Error_d52_c,script_Fault_Unwrap_d52_c,errors_New_6f3_c,script_Fault_Error_af6_c,isPP_c,script_Fault_Error_909_c,script_Fault_Error_089_c]) Tryd.f4.ntmps Tryd.f4.results.toList (bodyOf Tryd.f4) (.seq .leaf (.seq (.join ⟨[(12,.h .tb)],[7,8,9,10,11],[],[],[]⟩ (.reg [(2,{split:=true}),(5,{split:=true})]) (.cond (.seq (.reg [(0,{con:=0})]) .leaf) .leaf)) (.seq .leaf (.seq (.join ⟨[(35,.h .tb)],[14,15,16,17,18,19,20,21,22,23,24,25,26,27,28,29,30,31,32,33,34],[],[],[]⟩ (.reg [(1,{con:=1}),(3,{split:=true}),(5,{con:=2}),(12,{io:=some 0}),(15,{split:=true}),(19,{io:=some 1})]) .leaf) (.seq (.reg [(1,{con:=3})]) (.seq .leaf (.seq (.reg [(1,{io:=some 2})]) (.seq (.reg [(1,{io:=some 3}),(5,{split:=true}),(9,{io:=some 4}),(11,{split:=true}),(15,{io:=some 4}),(18,{split:=true}),(20,{io:=some 5}),(24,{split:=true}),(29,{io:=some 6}),(34,{split:=true}),(35,{con:=0})]) .leaf)))))))) [.h (.ti .i64)] (.h .tb) a = oriellaw34_ScriptFaults a:=by kernel_rfl
noncomputable def oriellaw34_ScriptFaults_c:PCon En:=⟨4,[.h (.ti .i64)],.h .tb,fun a=>oriellaw34_ScriptFaults a,Tryd.call4,fun a v h=>DF_ok rfl En_mixed rfl En_ok Tryd.func4 rfl rfl (by decide) ((oriellaw34_ScriptFaults_dq a).trans h)⟩
end Go.SH
namespace Go.SH
open Lib (decDigits)
theorem itoa_eq {n:Int} (h0:0 ≤ n) (h1:n ≤ 9223372036854775807):itoa n = some (decDigits n.toNat):=by
  unfold itoa
  rw [req_pos (by omega)]
  simp only [Lib.itoa]
  rw [if_neg (by omega)]
abbrev Ev2:=Int × DdT × List UInt8
instance instEv2:DecidableEq Ev2:=inferInstance
instance instEv3:DecidableEq (Int × Ev2):=fun a b=>@instDecidableEqProd Int Ev2 _ instEv2 a b
instance instEv4:DecidableEq (Int × Int × Ev2):=fun a b=>@instDecidableEqProd Int (Int × Ev2) _ instEv3 a b
instance instEv5:DecidableEq (Int × Int × Int × Ev2):=fun a b=>@instDecidableEqProd Int (Int × Int × Ev2) _ instEv4 a b
instance instEv:DecidableEq EvT:=fun a b=>@instDecidableEqProd Int (Int × Int × Int × Ev2) _ instEv5 a b
end Go.SH
set_option maxRecDepth 100000
namespace Go.SH
theorem faults_true (n:Int):oriellaw34_ScriptFaults n = some true:=by
  unfold oriellaw34_ScriptFaults
  by_cases h0:n < 0
  · simp [h0,oriellaw34_known]
  by_cases h1:n > 1099511627776
  · simp [h0,h1,oriellaw34_known]
  have hl:=nd_le (u:=n.toNat) (k:=13) (by omega) (by omega)
  simp only [h0,h1,decide_false,cond_false,Option.bind_some]
  rw [show script_Fault_Error_784 = some [] from rfl,show script_Fault_Unwrap_784 = some () from rfl,show script_Fault_Error_d52 = some [] from rfl,show script_Fault_Unwrap_d52 = some () from rfl,Digits_eq (by omega) (by omega)]
  have hE:script_Fault_Error_af6 n (some 0) = some (((([108,105,110,101,32]:List UInt8) ++ Lib.decDigits n.toNat) ++ [58,32]) ++ [116,101,120,116]):=by
    unfold script_Fault_Error_af6
    rw [show isP (some 3) (some 0) = some false from rfl,show isP (some 1) (some 0) = some false from rfl,show isP (some 4) (some 0) = some false from rfl,show isP (some 0) (some 0) = some true from rfl,itoa_eq (by omega) (by omega)]
    simp only [Option.bind_some,cond_false,cond_true]
    rw [req_pos (by simp;omega),req_pos (by simp;omega),req_pos (by simp;omega)]
  have hN:script_Fault_Error_909 n = some ((([108,105,110,101,32]:List UInt8) ++ Lib.decDigits n.toNat) ++ [58,32]):=by
    unfold script_Fault_Error_909
    rw [show isN (some 3) = some false from rfl,show isN (some 1) = some false from rfl,show isN (some 4) = some false from rfl,show isN (some 0) = some false from rfl,show isN (some 2) = some false from rfl,itoa_eq (by omega) (by omega)]
    simp only [Option.bind_some,cond_false,cond_true]
    rw [req_pos (by simp;omega),req_pos (by simp;omega),req_pos (by simp;omega),List.append_nil]
  have hF:script_Fault_Error_089 n (some 2) = some (((([108,105,110,101,32]:List UInt8) ++ Lib.decDigits n.toNat) ++ [58,32]) ++ lit_28e3a):=by
    unfold script_Fault_Error_089
    rw [show isE (some 2) (some 3) = some false from rfl,show isE (some 2) (some 1) = some false from rfl,show isE (some 2) (some 4) = some false from rfl,show isE (some 2) (some 0) = some false from rfl,show isE (some 2) (some 2) = some true from rfl,itoa_eq (by omega) (by omega)]
    simp only [Option.bind_some,cond_false,cond_true,Option.isNone_some]
    rw [req_pos (by simp;omega),req_pos (by simp;omega),req_pos (by simp [lit_28e3a];omega)]
  rw [hE,hN,hF,show isPP (some 0) (some 0) = some true from rfl,show isPP (some 1) (some 0) = some false from rfl,show errors_New_6f3 [111,116,104,101,114] = some [111,116,104,101,114] from rfl]
  simp only [Option.bind_some,cond_false,cond_true,beq_self_eq_true,Bool.not_true,Bool.not_false]
  rw [req_pos (by simp;omega),req_pos (by simp;omega),req_pos (by simp;omega),req_pos (by simp [lit_28e3a];omega)]
  simp [oriellaw34_known]
end Go.SH
namespace Go.SH
def offsB (P:Program) (tot:Nat):Nat → List Field → Bool
  | o,[]=>o == tot
  | o,f :: r=>(f.offset == o) && offsB P tot (o + P.cellsOf f.type) r
/-- Types that stand for a kind: one, or a struct's, one behind the other. -/
inductive Fit (P:Program):ET → List TypeId → Prop where
  | int {k:IntKind} {τ:TypeId} (h:P.underlying τ = some (.int k)):Fit P (.ti k) [τ]
  | u8 {τ:TypeId} (h:P.underlying τ = some (.int .u8)):Fit P .tu [τ]
  | bool {τ:TypeId} (h:P.underlying τ = some .bool):Fit P .tb [τ]
  | slice {t:ET} {τ e:TypeId} (h:P.underlying τ = some (.slice e)) (hs:P.cellsOf e = t.sz) (f:Fit P t [e]):Fit P (.tl t) [τ]
  | struct {t:ET} {τ:TypeId} {fs:Array Field} (h:P.underlying τ = some (.struct fs)) (ho:offsB P (P.cellsOf τ) 0 fs.toList = true) (f:Fit P t (fs.toList.map (·.type))):Fit P t [τ]
  | array {t:ET} {τ e:TypeId} {n:Nat} (h:P.underlying τ = some (.array n e)) (hz:P.cellsOf τ = n * P.cellsOf e) (f:Fit P t (List.replicate n e)):Fit P t [τ]
  | cons {a c:ET} {τ τ':TypeId} {τs:List TypeId} (f:Fit P a [τ]) (g:Fit P c (τ' :: τs)):Fit P (.tp a c) (τ :: τ' :: τs)
section
variable {H:Type} {enc:TypeId × Value → H} {P:Program} {w:World} {base:Nat} {sp:Nat → Bool} {held:Bool}
variable [SentA]
end
end Go.SH
set_option maxRecDepth 100000
namespace Go.Proofs.YtaildpaandndgaaDoor
open Go.ChangeShapes Go.WideShapes Go.ChangeAt Go.RowKit Go.Joins Go.SH
theorem own:ownKnob Tryd.prog.godebug = none:=by kernel_rfl
theorem laidOut:laidOutB Tryd.prog = true:=by kernel_rfl
def laidL:List (String × DataW Unit):=Rows.scriptParsesRow.laid
/-- The settled world, its variables laid: the tied ones as the door's run leaves them, the pinned one its table. -/
noncomputable def laidWorld (os:Os):World:=
  let w0:=World.doorLaid Tryd.prog 400 os
  { w0 with heap:=w0.heap.modify 8 fun
      | .cells _ t frozen=>.cells (Go.Lib.firstTab.map fun z=>Value.int .u8 z).toArray t frozen
      | o=>o }
theorem laid_nd (os:Os) (args:Array Value):laidMet Tryd.prog (laidL.filter fun x=>x.2.handleName?.isNone) ((laidWorld os).forCall (fun _ _=>0) ⟨#[],args,[]⟩).memory:=
  laidMet_of_run' 8 (by kernel_rfl) (by kernel_rfl)
theorem laid_h (os:Os) (args:Array Value):(laidL.filter fun x=>x.2.handleName?.isSome && x.2.funcsIn?.isNone).all (handleAtB Tryd.prog ((laidWorld os).forCall (fun _ _=>0) ⟨#[],args,[]⟩).memory) = true:=by kernel_rfl
theorem door_met (os:Os) (args:Array Value):laidMetH Tryd.prog laidL ((laidWorld os).forCall (fun _ _=>0) ⟨#[],args,[]⟩).memory:=
  laidMetH_of_parts3 (fuel:=8) (laid_nd os args) (laid_h os args) (by kernel_rfl)
end Go.Proofs.YtaildpaandndgaaDoor
set_option maxRecDepth 100000
namespace Go.SH
open Go.RowKit Go.ChangeShapes
theorem var_heap {P:Program} {W:World} {n:String} {cs:Array Value} {g:Nat} (h:W.var? P n = some cs) (hg:P.globalNamed n = some g):∃ T fr,W.heap[g]? = some (.cells cs T fr):=by
  unfold World.var? at h
  rw [hg] at h
  simp only [Option.bind_some] at h
  split at h
  · rename_i c T fr e
    simp at h;subst h
    exact ⟨T,fr,e⟩
  · cases h
theorem rop1 {W:World} {g:Nat} {x:PV} {v:Value} {c:Array Value} {T:TypeId} {fr:Nat × Nat} (hh:W.heap[g]? = some (.cells c T fr)) (h0:c[0]? = some v) (hv:VR W sig0 av0 x v) :
    VR W sig0 av0 (.rop [x] 0) (.pointer (some ⟨g,0,none⟩)):=
  .rop (add:=0) [v] ⟨(Array.getElem?_eq_some_iff.1 hh).1,av0_no _,fun i u hi=>by
    cases i with
    | zero=>simp at hi;subst hi;simp [World.cell?,hh,h0]
    | succ i=>simp at hi⟩ rfl fun i y u hy hu=>by
    cases i with
    | zero=>simp at hy hu;subst hy;subst hu;exact hv
    | succ i=>simp at hy
abbrev RowsOk (P:Program) (W:World) (ps:List MemPlace):Prop:=
  ∀ b off,MemPlace.cell b off ∈ ps → (∃ c t,W.heap[b]? = some (.cells c t (0,0))) ∧ ∀ u v,W.cell? ⟨b,off,none⟩ = some (.iface u v) → Value.okWide P W .any 0 u v
theorem RowsOk.right {P:Program} {W:World} {p q:List MemPlace} (h:RowsOk P W (p ++ q)):RowsOk P W q:=fun b off hm=>h b off (List.mem_append_right _ hm)
theorem pop_skip {P:Program} {W:World} {n:String} {d:DataW Unit} {r:List (String × DataW Unit)} {ps:List MemPlace} (h:DataW.LaidVars P W ((n,d) :: r) ps):∃ p q,DataW.LaidVars P W r q ∧ ps = p ++ q:=by
  obtain ⟨g,t,cs,fuel,p,q,_,_,_,_,hq,rfl⟩:=h
  exact ⟨_,q,hq,rfl⟩
theorem pop_sent {P:Program} {W:World} {n nm:String} {text:List UInt8} {r:List (String × DataW Unit)} {ps:List MemPlace} {g:Nat} {ti tp te ts:TypeId} {ms:Array (String × TypeId)} {f:Field}
    (hr:RowsOk P W ps)
    (hg:P.globalNamed n = some g) (ht:(P.globals[g]?).map (·.type) = some ti) (hi:P.underlying ti = some (.interface ms)) (hrow:∀ u,P.typeName? 3 u = some nm → u = tp)
    (hp:P.underlying tp = some (.pointer te)) (he:P.underlying te = some (.struct #[f])) (hft:f.type = ts) (hfo:f.offset = 0) (hs:P.underlying ts = some .string) (hc:P.cellsOf te = 1) (hcs:P.cellsOf ts = 1)
    (h:DataW.LaidVars P W ((n,.iface nm (.ptr (.agg [.lit (.string text)]))) :: r) ps) :
    ∃ (a:Addr) (q:List MemPlace),W.var? P n = some #[.iface tp (.pointer (some a))] ∧ (∃ c t,W.heap[a.block]? = some (.cells c t (0,0))) ∧ DataW.LaidVars P W r q ∧ ps = [.cell g 0,.cell a.block a.off] ++ q:=by
  obtain ⟨g0,t0,cs0,f0,p0,q0,hg0,ht0,hv0,hd0,hq,rfl⟩:=h
  obtain rfl:=Option.some.inj (hg.symm.trans hg0)
  obtain rfl:=Option.some.inj (ht.symm.trans ht0)
  obtain ⟨l0⟩:=cs0
  have ok0:∀ u v,l0 = [.iface u v] → Value.okWide P W .any 0 u v:=fun u v e=>by
    subst e
    exact (hr g 0 (by simp [MemPlace.row])).2 u v (by simpa using World.var?_cell hg0 hv0 0)
  obtain ⟨a0,s0,rfl,hc0,hs0,hz0,rfl⟩:=errorString_of_trod hi hrow hp he hft hfo hs hc hcs hd0 ok0
  exact ⟨a0,q0,hv0,(hr a0.block a0.off (by simp [MemPlace.row])).1,hq,by simp [MemPlace.row]⟩
theorem ne_of_places {a b:Addr} (h:MemPlace.cell a.block a.off ≠ MemPlace.cell b.block b.off):a ≠ b:=fun e=>h (by rw [e])
end Go.SH
namespace Go.Proofs.YtaildpaandndgaaDoor
open Go.ChangeShapes Go.WideShapes Go.ChangeAt Go.RowKit Go.Joins Go.SH
theorem star:"*" ++ "errors.errorString" = "*errors.errorString":=by decide
theorem row71 (u:TypeId) (h:Tryd.prog.typeName? 3 u = some "*errors.errorString"):u = 71:=
  typeName_ptr_named (nm:="errors.errorString") (by rw [star];kernel_rfl) (by kernel_rfl) (by decide) u (by rw [star];exact h)
theorem g0:Tryd.prog.globalNamed "oriel/script.ErrText" = some 0:=by kernel_rfl
theorem g1:Tryd.prog.globalNamed "oriel/script.ErrWord" = some 1:=by kernel_rfl
theorem g2:Tryd.prog.globalNamed "oriel/script.ErrEnd" = some 2:=by kernel_rfl
theorem g3:Tryd.prog.globalNamed "oriel/script.ErrLong" = some 3:=by kernel_rfl
theorem g4:Tryd.prog.globalNamed "oriel/script.ErrNumber" = some 4:=by kernel_rfl
theorem g5:Tryd.prog.globalNamed "errors.errorType" = some 5:=by kernel_rfl
theorem g7:Tryd.prog.globalNamed "internal/strconv.uint64pow10" = some 7:=by kernel_rfl
theorem t7:(Tryd.prog.globals[7]?).map (·.type) = some 166:=by kernel_rfl
theorem rtT:(Tryd.prog.cutTypes.find? (·.1 == "internal/reflectlite.rtype")).map (·.2) = some 121:=by kernel_rfl
theorem oneRow:((List.range 303).filter fun t=>Tryd.prog.rowNamed t [101,114,114,111,114]) = [25]:=by kernel_rfl
theorem size:Tryd.prog.types.size ≤ 303:=of_decide_eq_true (by kernel_rfl)
theorem handle25:typeHandle Tryd.prog 25 = .pointer (some ⟨12,25,none⟩):=by kernel_rfl
/-- One of the five. -/
theorem pop {W:World} {n:String} {g:Nat} {text:List UInt8} {r:List (String × DataW Unit)} {ps:List MemPlace} (hg:Tryd.prog.globalNamed n = some g) (ht:(Tryd.prog.globals[g]?).map (·.type) = some 25) (hr:RowsOk Tryd.prog W ps)
    (h:DataW.LaidVars Tryd.prog W ((n,.iface "*errors.errorString" (.ptr (.agg [.lit (.string text)]))) :: r) ps) :
    ∃ (a:Addr) (q:List MemPlace),(EvA W av0 a ∧ VR W sig0 av0 (.rop [.ev 71 (some a)] 0) (.pointer (some ⟨g,0,none⟩))) ∧ DataW.LaidVars Tryd.prog W r q ∧ ps = [.cell g 0,.cell a.block a.off] ++ q:=by
  obtain ⟨a,q,hv,hb,hq,e⟩:=pop_sent hr hg ht Tryd.underlying25 row71 Tryd.underlying71 Tryd.underlying73 rfl rfl Tryd.underlying9 (by kernel_rfl) (by kernel_rfl) h
  have hE:EvA W av0 a:=⟨av0_no _,hb⟩
  obtain ⟨T,fr,hh⟩:=var_heap hv hg
  exact ⟨a,q,⟨hE,rop1 hh rfl (.ev 71 (some a) fun b e=>by cases e;exact hE)⟩,hq,e⟩
theorem laid_list:laidL.filter (fun x=>x.2.handleName?.isNone) = [("math/bits.deBruijn32tab",Rows.laid_math_bits_deBruijn32tab),("math/bits.deBruijn64tab",Rows.laid_math_bits_deBruijn64tab),
    ("internal/strconv.uint64pow10",Lib.tabData .u64 Lib.pow10Tab),("unicode/utf8.acceptRanges",Rows.laid_unicode_utf8_acceptRanges),
    ("oriel/script.ErrLong",Rows.laid_oriel_script_ErrLong),("oriel/script.ErrWord",Rows.laid_oriel_script_ErrWord),("oriel/script.ErrNumber",Rows.laid_oriel_script_ErrNumber),
    ("oriel/script.ErrText",Rows.laid_oriel_script_ErrText),("oriel/script.ErrEnd",Rows.laid_oriel_script_ErrEnd),("unicode/utf8.first",Rows.laid_unicode_utf8_first)]:=by kernel_rfl
/-- The addresses given, and others beyond the memory. -/
def fOf (a:Nat → Addr) (n:Nat) (i:Nat):Addr:=if i < 5 then a i else ⟨n + i,0,none⟩
theorem fOf_inj {a:Nat → Addr} {n:Nat} (h:∀ i j,i < 5 → j < 5 → a i = a j → i = j) (hb:∀ i,i < 5 → (a i).block < n):∀ i j,fOf a n i = fOf a n j → i = j:=by
  intro i j e
  unfold fOf at e
  split at e <;> split at e
  · exact h i j ‹_› ‹_› e
  · have h1:=hb i ‹_›
    rw [e] at h1;simp only at h1;omega
  · have h1:=hb j ‹_›
    rw [← e] at h1;simp only at h1;omega
  · have:=congrArg Addr.block e
    simp only at this;omega
def aOf (a0 a1 a2 a3 a4:Addr):Nat → Addr
  | 0=>a0
  | 1=>a1
  | 2=>a2
  | 3=>a3
  | _=>a4
theorem En_globals {W:World} (h:laidMetH Tryd.prog laidL W) :
    ∃ S:Sent34,∀ g cells,lget (@En S).G g = some cells → VR W sig0 av0 (.rop cells 0) (.pointer (some ⟨g,0,none⟩)):=by
  have h':laidMet Tryd.prog (laidL.filter fun x=>x.2.handleName?.isNone) W ∧ handlesMet Tryd.prog [("errors.errorType",Rows.laid_errors_errorType)] W:=h
  rw [laid_list] at h'
  obtain ⟨⟨ps,hv,hnd,hr⟩,hh⟩:=h'
  have hr:RowsOk Tryd.prog W ps:=hr
  obtain ⟨name,u,ty,e1,e2,e3,e4,e5⟩:=hh _ (List.mem_singleton.2 rfl)
  have en:name = [101,114,114,111,114]:=(Option.some.inj e1).symm
  subst en
  obtain rfl:=Option.some.inj (rtT.symm.trans e2)
  have hm:ty ∈ (List.range 303).filter fun t=>Tryd.prog.rowNamed t [101,114,114,111,114]:=List.mem_filter.2 ⟨List.mem_range.2 (Nat.lt_of_lt_of_le e3 size),e4⟩
  rw [oneRow] at hm
  obtain rfl:=List.mem_singleton.1 hm
  rw [handle25] at e5
  obtain ⟨T5,fr5,hh5⟩:=var_heap e5 g5
  obtain ⟨_,q1,hv1,u1⟩:=pop_skip hv
  obtain ⟨_,q2,hv2,u2⟩:=pop_skip hv1
  obtain ⟨gp,tp,cp,fp,pp,q3,hgp,htp,hvp,hdp,hv3,u3⟩:=hv2
  obtain rfl:=Option.some.inj (g7.symm.trans hgp)
  obtain rfl:=Option.some.inj (t7.symm.trans htp)
  have hcp:cp.toList = Lib.pow10Tab.map fun z=>Value.int .u64 z:=Lib.cells_of_tab (k:=.u64) Tryd.underlying166 Tryd.underlying155 (by kernel_rfl) (by kernel_rfl) hdp
  obtain ⟨T7,fr7,hh7⟩:=var_heap hvp g7
  obtain ⟨_,q4,hv4,u4⟩:=pop_skip hv3
  have r1:RowsOk Tryd.prog W q1:=(u1 ▸ hr).right
  have r2:RowsOk Tryd.prog W q2:=(u2 ▸ r1).right
  have r3:RowsOk Tryd.prog W q3:=(u3 ▸ r2).right
  have r4:RowsOk Tryd.prog W q4:=(u4 ▸ r3).right
  obtain ⟨a3,q5,k3,hv5,u5⟩:=pop g3 (by kernel_rfl) r4 hv4
  have r5:RowsOk Tryd.prog W q5:=(u5 ▸ r4).right
  obtain ⟨a1,q6,k1,hv6,u6⟩:=pop g1 (by kernel_rfl) r5 hv5
  have r6:RowsOk Tryd.prog W q6:=(u6 ▸ r5).right
  obtain ⟨a4,q7,k4,hv7,u7⟩:=pop g4 (by kernel_rfl) r6 hv6
  have r7:RowsOk Tryd.prog W q7:=(u7 ▸ r6).right
  obtain ⟨a0,q8,k0,hv8,u8⟩:=pop g0 (by kernel_rfl) r7 hv7
  have r8:RowsOk Tryd.prog W q8:=(u8 ▸ r7).right
  obtain ⟨a2,q9,k2,hv9,u9⟩:=pop g2 (by kernel_rfl) r8 hv8
  have n1:q1.Nodup:=(List.nodup_append.1 (u1 ▸ hnd)).2.1
  have n2:q2.Nodup:=(List.nodup_append.1 (u2 ▸ n1)).2.1
  have n3:q3.Nodup:=(List.nodup_append.1 (u3 ▸ n2)).2.1
  have n4:q4.Nodup:=(List.nodup_append.1 (u4 ▸ n3)).2.1
  rw [u5,u6,u7,u8,u9] at n4
  simp only [List.cons_append,List.nil_append,List.nodup_cons,List.mem_cons,not_or] at n4
  obtain ⟨_,⟨_,d31,_,d34,_,d30,_,d32,_⟩,_,⟨_,d14,_,d10,_,d12,_⟩,_,⟨_,d40,_,d42,_⟩,_,⟨_,d02,_⟩,_⟩:=n4
  have d31:=ne_of_places d31
  have d34:=ne_of_places d34
  have d30:=ne_of_places d30
  have d32:=ne_of_places d32
  have d14:=ne_of_places d14
  have d10:=ne_of_places d10
  have d12:=ne_of_places d12
  have d40:=ne_of_places d40
  have d42:=ne_of_places d42
  have d02:=ne_of_places d02
  have hb:∀ i,i < 5 → (aOf a0 a1 a2 a3 a4 i).block < W.heap.size:=fun i hi=>
    match i,hi with
    | 0,_=>k0.1.lt
    | 1,_=>k1.1.lt
    | 2,_=>k2.1.lt
    | 3,_=>k3.1.lt
    | 4,_=>k4.1.lt
  have hi:∀ i j,i < 5 → j < 5 → aOf a0 a1 a2 a3 a4 i = aOf a0 a1 a2 a3 a4 j → i = j:=by
    intro i j hi hj e
    rcases i with _ | _ | _ | _ | _ | i
    all_goals try omega
    all_goals rcases j with _ | _ | _ | _ | _ | j
    all_goals try omega
    all_goals try rfl
    all_goals simp only [aOf] at e
    all_goals first | exact absurd e d31 | exact absurd e.symm d31 | exact absurd e d34 | exact absurd e.symm d34 | exact absurd e d30 | exact absurd e.symm d30 | exact absurd e d32 | exact absurd e.symm d32 | exact absurd e d14 | exact absurd e.symm d14 | exact absurd e d10 | exact absurd e.symm d10 | exact absurd e d12 | exact absurd e.symm d12 | exact absurd e d40 | exact absurd e.symm d40 | exact absurd e d42 | exact absurd e.symm d42 | exact absurd e d02 | exact absurd e.symm d02
  refine ⟨⟨fOf (aOf a0 a1 a2 a3 a4) W.heap.size,fOf_inj hi hb⟩,fun g cells hg=>?_⟩
  simp only [En,gtPV,GT,SentA.extra,List.map_cons,List.map_nil,List.cons_append,List.nil_append,lget] at hg
  split at hg
  · rename_i e;subst e;simp at hg;subst hg;exact k0.2
  split at hg
  · rename_i e;subst e;simp at hg;subst hg;exact k1.2
  split at hg
  · rename_i e;subst e;simp at hg;subst hg;exact k2.2
  split at hg
  · rename_i e;subst e;simp at hg;subst hg;exact k3.2
  split at hg
  · rename_i e;subst e;simp at hg;subst hg;exact k4.2
  split at hg
  · rename_i e;subst e;simp at hg;subst hg
    exact rop1 hh5 rfl (.xc 5 errT T5 fr5 _ rfl (av0_no _) (by simpa [errT] using hh5))
  split at hg
  · rename_i e;subst e;simp at hg;subst hg
    have hcp':cp = p10T.toArray:=by apply Array.toList_inj.1;rw [hcp];rfl
    subst hcp'
    exact rop1 (v:=.int .u64 1) hh7 (by kernel_rfl) (.xc 7 p10T T7 fr7 _ rfl (av0_no _) hh7)
  simp at hg
end Go.Proofs.YtaildpaandndgaaDoor
namespace Go.SH
open Lib (decDigits)
def hd1 (x:UInt8):UInt8:=(lit_4032a[x.toNat / 16]?).getD 0
def hd2 (x:UInt8):UInt8:=(lit_4032a[x.toNat % 16]?).getD 0
def qb (x:UInt8):List UInt8:=bif plainB x then [x] else [92,hd1 x,hd2 x]
end Go.SH
set_option maxRecDepth 100000
namespace Go.SH
abbrev KEv:ET:=.tp (.ti .i64) K5605
end Go.SH
namespace Go.Proofs.YtaildpaandndgaaDoor
open Go.ChangeShapes Go.WideShapes Go.ChangeAt Go.RowKit Go.Joins Go.SH
section
variable {H:Type} {enc:TypeId × Value → H} {W:World} {base:Nat} {v:Value} {d:DataW H} {p:List MemPlace}
variable [Sent34]
end
end Go.Proofs.YtaildpaandndgaaDoor
set_option maxRecDepth 100000
namespace Go.Proofs.YtaildpaandndgaaDoor
open Go Go.ChangeShapes Go.WideShapes Go.ChangeAt Go.RowKit Go.Joins Go.SH
theorem law_pure [Sent34] (a0:Int) (wf0:(Lit.int .i64 a0).wf = true):Pure En 4 [.int .i64 a0] (.bool true):=
  oriellaw34_ScriptFaults_c.ok (a0) true (faults_true a0)
theorem law_lifted (os:Os) (started:os.Started) (H:Type) (enc:TypeId × Value → H) :
    ReturnsInHanded {} Tryd.checked os 4 .any (fun w args=>(Rows.scriptFaultsSpec.pre enc Tryd.prog Tryd.f4 [] false w args ∧ laidMetH Tryd.prog laidL w) ∧ sizedMet enc Tryd.prog Tryd.f4 (OpenSpec.ofChange Rows.scriptFaultsSpec) false w args)
      (Rows.scriptFaultsSpec.post enc Tryd.prog Tryd.f4 false true false false):=by
  refine returnsInHanded_of_change_and (C:=Tryd.checked) (X:=fun w _=>laidMetH Tryd.prog laidL w) (fun _ _ _ hh h=>h.of_heap hh) own started (by kernel_rfl) Tryd.func4
    (ChangeSpec.witness_shaped (enc:=enc) (C:=Tryd.checked) (os:=os) (X:=fun w _=>laidMetH Tryd.prog laidL w) false (laidWorld os) #[.int .i64 0] 8 rfl (World.shaped_of_RefB (by kernel_rfl) (by kernel_rfl)) (by kernel_rfl) (by kernel_rfl) (by kernel_rfl) (door_met os _)) ?_
  intro W base args ds gs before hval0 hW _ _ hL _
  have hval:∀ (j:Nat) t v,Tryd.f4.params[j]? = some t → args[j]? = some v → Value.okWide Tryd.prog W .any base t v:=hval0
  have hW':=hW
  obtain ⟨p,q,hA0,hV,rfl,hfz,hnd⟩:=hW
  have hA:DataW.TrodAll enc Tryd.prog W 0 (fun _=>true) true Tryd.f4.params.toList args.toList ds p:=hA0
  rw [Tryd.params4] at hA hval
  obtain ⟨v0,vs0,d0,ds0,p0,q0,ha0,rfl,rfl,h0,hA⟩:=trodAll_cons hA
  obtain ⟨rfl,rfl,rfl⟩:=trodAll_nil hA
  have hargs:args = #[v0]:=by
    apply Array.toList_inj.1;rw [ha0]
  subst hargs
  obtain ⟨rfl,rfl⟩:=trodVars_none hV
  have ltp:∀ {t:TypeId} {v:Value} {d:DataW H} {p:List MemPlace},DataW.Trod enc Tryd.prog W 0 (fun _=>true) true t v d p → ∀ x ∈ p,x.block < W.heap.size:=fun h=>by obtain ⟨m,hm⟩:=h;exact DataW.trod_lt m _ _ _ hm
  obtain ⟨S,hS⟩:=En_globals hL
  letI:Sent34:=S
  have h0':=h0
  obtain ⟨n0,rfl,rfl,rfl,w0⟩:=open_int Tryd.underlying3 (hval 0 3 v0 rfl rfl) h0'
  have hv0:VR W sig0 av0 (.int .i64 n0) (.int .i64 n0):=.int _ _
  refine (law_calls' (law_pure n0 w0) W [.int .i64 n0]
    (.cons hv0 .nil) hS).mono fun e W' ⟨he,bel⟩=>?_
  subst he
  exact ⟨_,rfl,_,_,_,[],_,[],hW',trodAll_mk1 (shut_bool Tryd.underlying4 _),
    (trodAll_cons_mk (Below.trod laidOut (by kernel_rfl) (of_decide_eq_true (by kernel_rfl)) h0 bel (ltp h0)) trodAll_mk0),rfl,bel.frame _,fun h=>by cases h⟩
theorem law_row:Rows.ScriptFaultsSaid:=
  OpenClaim.holds_of_wide 4 Tryd.f4 rfl rfl rfl rfl rfl rfl rfl ⟨rfl,rfl,rfl,rfl,rfl⟩ rfl rfl rfl rfl rfl (by kernel_rfl) Tryd.func4 (by kernel_rfl)
    (of_decide_eq_true (by kernel_rfl)) (by unfold Func.isWrapper;first | (rw [if_pos (by decide +kernel)];kernel_rfl) | (rw [if_neg (by decide +kernel)];exact ⟨rfl,rfl⟩))
    (fun os started H enc _=>law_lifted os started H enc)
theorem script_faults_holds:Rows.ScriptFaultsCardSaid:=
  Claim7.holds_tied_plain_at .later [] [.data,.data,.data,.data,.handle,.sentinel,.sentinel,.sentinel,.sentinel,.sentinel,.pinned] true (true,"697d90f6e5e2e597adb7f51ee71aadf481d62156e225e93a54c51917f338d07c") true
    law_row (fun _ h=>by cases h) (by kernel_rfl) (fun _ h=>by cases h) scriptFaults_row_tie rfl ⟨rfl,rfl⟩ (by kernel_rfl) rfl
    (fun f fn hf hfn=>by
      obtain rfl:f = 4:=Option.some.inj ((show Tryd.prog.funcNamed "oriel/oriellaw34.ScriptFaults" = some 4 by kernel_rfl).symm.trans hf) |>.symm
      obtain rfl:fn = Tryd.f4:=(Option.some.inj (Tryd.func4.symm.trans hfn)).symm
      exact ⟨by kernel_rfl,fun j t ht=>by
        rw [Tryd.params4] at ht
        have hm:t ∈ [3]:=by simpa using Array.mem_of_getElem? ht
        have hall:([3].all fun u=>!Tryd.prog.wantsStandIn u) = true:=by kernel_rfl
        exact (show Tryd.prog.wantsStandIn t = false by simpa using List.all_eq_true.1 hall t hm)⟩)
    (by kernel_rfl)
end Go.Proofs.YtaildpaandndgaaDoor
