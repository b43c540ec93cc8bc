/- ScreenPages: the first page is as it was, cursor and pen too, when the other one was shown and is no longer, whatever was done there but for resizing and beginning anew; of at most 20 rows and columns, at most 60 changes on either page. -/
import Derived.Test.YtfadcigdmddndaaDoorE
import Derived.Test.YtfadcigdmddndaaDoorProg
import Derived.KernelRfl
import Derived.ProofKit
import Derived.LaidMore
import Derived.OpenShut
import Derived.Below
import Derived.Test.YtfadcigdmddndaaDoorRows
import Derived.Stop.Joined
import Derived.Lib.LaidTab
import Derived.Lib.SmallJoins
import Derived.Test.YtfadcigdmddndaaDoorTie
import Derived.Test.YtfadcigdmddndaaDoorCards
import Derived.SevenTiedAt
set_option linter.unusedVariables false
set_option linter.unusedSimpArgs false
set_option maxRecDepth 100000
namespace Go.SH
def rg (a n:Nat):List Nat:=List.range' a n
open Go.Proofs
noncomputable def En:Env:=⟨Tryd.prog,gtPV GT,none,none⟩
theorem En_ok:GOK En:=by
  intro g cells h
  simp only [En,gtPV,GT,List.map_cons,List.map_nil,lget] at h
  split at h
  · simp at h;subst h;exact fl_noF rfl _
  · split at h
    · simp at h;subst h;exact fl_noF rfl _
    · simp at h
theorem En_mixed:En.P.follows .mixedOrders = true:=by kernel_rfl
noncomputable def noC:CT En:=⟨fun _=>none,fun _=>none⟩
noncomputable def cl (l:List (PCon En)) (m:List (ICon En)):CT En:=⟨fun i=>l[i]?,fun i=>m[i]?⟩
theorem grid_side_dq (a:HT (Sh.hss [.h (.ti .i64)])):DF En GT noC Tryd.f28.ntmps Tryd.f28.results.toList (bodyOf Tryd.f28) (.seq .leaf (.seq (.reg [(2,{split:=true})]) .leaf)) [.h (.ti .i64)] (.h .tb) a = grid_side a:=by kernel_rfl
noncomputable def grid_side_c:PCon En:=⟨28,[.h (.ti .i64)],.h .tb,fun a=>grid_side a,Tryd.call28,fun a v h=>DF_ok rfl En_mixed rfl En_ok Tryd.func28 rfl rfl (by decide) ((grid_side_dq a).trans h)⟩
theorem pen_May_1_dq (a:HT (Sh.hss [.h (.ti .i64),.h (.ti .i64)])):DF En GT noC Tryd.f48.ntmps Tryd.f48.results.toList (bodyOf Tryd.f48) (.seq .leaf (.seq (.reg [(2,{split:=true})]) .leaf)) [.h (.ti .i64),.h (.ti .i64)] (.h .tb) a = pen_May_1 a.1 a.2:=by kernel_rfl
noncomputable def pen_May_1_c:PCon En:=⟨48,[.h (.ti .i64),.h (.ti .i64)],.h .tb,fun a=>pen_May_1 a.1 a.2,Tryd.call48,fun a v h=>DF_ok rfl En_mixed rfl En_ok Tryd.func48 rfl rfl (by decide) ((pen_May_1_dq a).trans h)⟩
theorem pen_May_dq (a:HT (Sh.hss [.st K92a5])):DF En GT (cl [pen_May_1_c] []) Tryd.f29.ntmps Tryd.f29.results.toList (bodyOf Tryd.f29) (.seq .leaf (.seq .leaf (.seq (.reg [(3,{con:=0}),(4,{split:=true}),(8,{con:=0}),(10,{split:=true}),(14,{con:=0})]) .leaf))) [.st K92a5] (.h .tb) a = pen_May a:=by kernel_rfl
noncomputable def pen_May_c:PCon En:=⟨29,[.st K92a5],.h .tb,fun a=>pen_May a,Tryd.call29,fun a v h=>DF_ok rfl En_mixed rfl En_ok Tryd.func29 rfl rfl (by decide) ((pen_May_dq a).trans h)⟩
theorem line_blank_dq (a:HT (Sh.hss [.st K92a5])):DF En GT noC Tryd.f50.ntmps Tryd.f50.results.toList (bodyOf Tryd.f50) .leaf [.st K92a5] (.st (.tp (.ti .i32) K72c5)) a = line_blank a:=by kernel_rfl
noncomputable def line_blank_c:PCon En:=⟨50,[.st K92a5],.st (.tp (.ti .i32) K72c5),fun a=>line_blank a,Tryd.call50,fun a v h=>DF_ok rfl En_mixed rfl En_ok Tryd.func50 rfl rfl (by decide) ((line_blank_dq a).trans h)⟩
theorem bits_Mul64_dq (a:HT (Sh.hss [.h (.ti .u64),.h (.ti .u64)])):DF En GT noC Tryd.f91.ntmps Tryd.f91.results.toList (bodyOf Tryd.f91) .leaf [.h (.ti .u64),.h (.ti .u64)] (.tup [.h (.ti .u64),.h (.ti .u64)]) a = bits_Mul64 a.1 a.2:=by kernel_rfl
noncomputable def bits_Mul64_c:PCon En:=⟨91,[.h (.ti .u64),.h (.ti .u64)],.tup [.h (.ti .u64),.h (.ti .u64)],fun a=>bits_Mul64 a.1 a.2,Tryd.call91,fun a v h=>DF_ok rfl En_mixed rfl En_ok Tryd.func91 rfl rfl (by decide) ((bits_Mul64_dq a).trans h)⟩
theorem bits_Mul_dq (a:HT (Sh.hss [.h (.ti .u64),.h (.ti .u64)])):DF En GT (cl [bits_Mul64_c] []) Tryd.f78.ntmps Tryd.f78.results.toList (bodyOf Tryd.f78) (.seq .leaf (.seq .leaf (.seq (.reg [(2,{con:=0})]) .leaf))) [.h (.ti .u64),.h (.ti .u64)] (.tup [.h (.ti .u64),.h (.ti .u64)]) a = bits_Mul a.1 a.2:=by kernel_rfl
noncomputable def bits_Mul_c:PCon En:=⟨78,[.h (.ti .u64),.h (.ti .u64)],.tup [.h (.ti .u64),.h (.ti .u64)],fun a=>bits_Mul a.1 a.2,Tryd.call78,fun a v h=>DF_ok rfl En_mixed rfl En_ok Tryd.func78 rfl rfl (by decide) ((bits_Mul_dq a).trans h)⟩
theorem slices_Repeat_4bb_dq (a:HT (Sh.hss [.h (.tl (.tp (.ti .i32) K72c5)),.h (.ti .i64)])):DF En GT (cl [bits_Mul_c] []) Tryd.f49.ntmps Tryd.f49.results.toList (bodyOf Tryd.f49) (.seq .leaf (.seq (.join ⟨[(10,.h .tb)],[9],[],[],[]⟩ (.reg [(1,{split:=true})]) .leaf) (.seq (.reg [(5,{con:=0})]) (.seq (.join ⟨[(26,.h .tb)],[21,22,23,24,25],[],[],[]⟩ (.reg [(2,{split:=true}),(5,{split:=true})]) .leaf) (.seq .leaf (.seq .leaf (.seq (.blk (.loop ⟨[(8,.h (.ti .i64))],(rg 34 13),[(0,.ls (.tp (.ti .i32) K72c5))],[],[]⟩ [(.exit 0,⟨[],([8] ++ rg 34 13),[(0,.ls (.tp (.ti .i32) K72c5))],[],[]⟩)] (.seq (.join ⟨[(37,.h .tb)],[34,35,36],[],[],[]⟩ (.reg [(3,{split:=true})]) .leaf) .leaf))) .leaf))))))) [.h (.tl (.tp (.ti .i32) K72c5)),.h (.ti .i64)] (.h (.tl (.tp (.ti .i32) K72c5))) a = slices_Repeat_4bb a.1 a.2:=by kernel_rfl
noncomputable def slices_Repeat_4bb_c:PCon En:=⟨49,[.h (.tl (.tp (.ti .i32) K72c5)),.h (.ti .i64)],.h (.tl (.tp (.ti .i32) K72c5)),fun a=>slices_Repeat_4bb a.1 a.2,Tryd.call49,fun a v h=>DF_ok rfl En_mixed rfl En_ok Tryd.func49 rfl rfl (by decide) ((slices_Repeat_4bb_dq a).trans h)⟩
theorem line_Blank_dq (a:HT (Sh.hss [.h (.ti .i64),.st K92a5])):DF En GT (cl [pen_May_c,line_blank_c,slices_Repeat_4bb_c] []) Tryd.f30.ntmps Tryd.f30.results.toList (bodyOf Tryd.f30) (.seq .leaf (.seq (.join ⟨[(15,.h .tb)],(rg 5 10),[],[],[]⟩ (.reg [(2,{split:=true}),(6,{split:=true}),(8,{con:=0}),(10,{split:=true})]) .leaf) (.seq (.reg [(1,{con:=1}),(4,{fz:=[(18,.tp (.ti .i32) K72c5)],con:=2})]) .leaf))) [.h (.ti .i64),.st K92a5] (.h (.tl (.tp (.ti .i32) K72c5))) a = line_Blank a.1 a.2:=by kernel_rfl
noncomputable def line_Blank_c:PCon En:=⟨30,[.h (.ti .i64),.st K92a5],.h (.tl (.tp (.ti .i32) K72c5)),fun a=>line_Blank a.1 a.2,Tryd.call30,fun a v h=>DF_ok rfl En_mixed rfl En_ok Tryd.func30 rfl rfl (by decide) ((line_Blank_dq a).trans h)⟩
def grid_Blank_d0d_ar:List Sh:=[.h (.ti .i64),.h (.ti .i64),.st K92a5]
def grid_Blank_d0d_ls:List (Nat × LSh):=[]
def grid_Blank_d0d_ot:Tm:=⟨[(0,.rww 0 1)],[],[(0,.ls (.tl (.tp (.ti .i32) K72c5)))],[],[]⟩
theorem grid_Blank_d0d_dq (a:HT (Sh.hss grid_Blank_d0d_ar ++ hsL grid_Blank_d0d_ls)):DI En GT (cl [grid_side_c,pen_May_c,line_Blank_c] []) Tryd.f16.ntmps Tryd.f16.results.toList (bodyOf Tryd.f16) (.seq .leaf (.seq (.join ⟨[(21,.h .tb)],(rg 9 12),[],[],[]⟩ (.reg [(1,{con:=0}),(3,{split:=true}),(5,{con:=0}),(8,{split:=true}),(10,{con:=1}),(12,{split:=true})]) .leaf) (.seq .leaf (.seq (.seq .leaf (.blk (.loop ⟨[(26,.h (.ti .i64))],([8] ++ rg 27 9),[(1,.ls (.tl (.tp (.ti .i32) K72c5)))],[],[]⟩ [(.exit 0,⟨[],([8] ++ rg 26 10),[(1,.ls (.tl (.tp (.ti .i32) K72c5)))],[],[]⟩)] (.join ⟨[(27,.h .tb)],[],[],[],[]⟩ (.reg [(0,{split:=true})]) (.seq .leaf (.seq (.blk (.seq .leaf (.reg [(4,{con:=2})]))) .leaf)))))) .leaf)))) grid_Blank_d0d_ar grid_Blank_d0d_ls grid_Blank_d0d_ot a = grid_Blank_d0d a.1 a.2.1 a.2.2:=by kernel_rfl
noncomputable def grid_Blank_d0d_c:ICon En:=⟨16,grid_Blank_d0d_ar,grid_Blank_d0d_ls,grid_Blank_d0d_ot,fun a=>grid_Blank_d0d a.1 a.2.1 a.2.2,Tryd.call16,fun a v h=>DI_ok rfl En_mixed rfl En_ok Tryd.func16 rfl ⟨rfl,rfl,rfl,rfl⟩ ((grid_Blank_d0d_dq a).trans h)⟩
theorem tabs_side_dq (a:HT (Sh.hss [.h (.ti .i64)])):DF En GT noC Tryd.f66.ntmps Tryd.f66.results.toList (bodyOf Tryd.f66) (.seq .leaf (.seq (.reg [(2,{split:=true})]) .leaf)) [.h (.ti .i64)] (.h .tb) a = tabs_side a:=by kernel_rfl
noncomputable def tabs_side_c:PCon En:=⟨66,[.h (.ti .i64)],.h .tb,fun a=>tabs_side a,Tryd.call66,fun a v h=>DF_ok rfl En_mixed rfl En_ok Tryd.func66 rfl rfl (by decide) ((tabs_side_dq a).trans h)⟩
theorem tabs_Set_dq (a:HT (Sh.hss [.st (.tp (.ti .u64) Kf613),.h (.ti .i64)])):DF En GT (cl [tabs_side_c] []) Tryd.f41.ntmps Tryd.f41.results.toList (bodyOf Tryd.f41) (.seq .leaf (.join ⟨[],(rg 5 11),[],[(0,0,.h (.ti .u64)),(0,1,.h (.ti .u64)),(0,2,.h (.ti .u64)),(0,3,.h (.ti .u64))],[]⟩ (.join ⟨[(6,.h .tb)],[5],[],[],[]⟩ (.reg [(1,{split:=true,con:=0})]) (.cond (.reg [(2,{sel:=true}),(8,{sel:=true})]) .leaf)) .leaf)) [.st (.tp (.ti .u64) Kf613),.h (.ti .i64)] (.st (.tp (.ti .u64) Kf613)) a = tabs_Set a.1 a.2:=by kernel_rfl
noncomputable def tabs_Set_c:PCon En:=⟨41,[.st (.tp (.ti .u64) Kf613),.h (.ti .i64)],.st (.tp (.ti .u64) Kf613),fun a=>tabs_Set a.1 a.2,Tryd.call41,fun a v h=>DF_ok rfl En_mixed rfl En_ok Tryd.func41 rfl rfl (by decide) ((tabs_Set_dq a).trans h)⟩
theorem tabs_Wider_dq (a:HT (Sh.hss [.st (.tp (.ti .u64) Kf613),.h (.ti .i64),.h (.ti .i64)])):DF En GT (cl [tabs_Set_c] []) Tryd.f36.ntmps Tryd.f36.results.toList (bodyOf Tryd.f36) (.seq .leaf (.seq (.seq .leaf (.blk (.loop ⟨[(7,.h (.ti .i64))],(rg 8 12),[],[(0,0,.h (.ti .u64)),(0,1,.h (.ti .u64)),(0,2,.h (.ti .u64)),(0,3,.h (.ti .u64))],[]⟩ [(.exit 0,⟨[],(rg 7 13),[],[(0,0,.h (.ti .u64)),(0,1,.h (.ti .u64)),(0,2,.h (.ti .u64)),(0,3,.h (.ti .u64))],[]⟩)] (.seq (.join ⟨[(11,.h .tb)],[8,9,10],[],[],[]⟩ (.reg [(3,{split:=true})]) .leaf) (.join ⟨[],(rg 14 6),[],[(0,0,.h (.ti .u64)),(0,1,.h (.ti .u64)),(0,2,.h (.ti .u64)),(0,3,.h (.ti .u64))],[]⟩ (.blk (.join ⟨[(16,.h .tb)],[14,15],[],[],[]⟩ (.reg [(2,{split:=true})]) (.cond (.reg [(2,{con:=0})]) .leaf))) .leaf))))) .leaf)) [.st (.tp (.ti .u64) Kf613),.h (.ti .i64),.h (.ti .i64)] (.st (.tp (.ti .u64) Kf613)) a = tabs_Wider a.1 a.2.1 a.2.2:=by kernel_rfl
noncomputable def tabs_Wider_c:PCon En:=⟨36,[.st (.tp (.ti .u64) Kf613),.h (.ti .i64),.h (.ti .i64)],.st (.tp (.ti .u64) Kf613),fun a=>tabs_Wider a.1 a.2.1 a.2.2,Tryd.call36,fun a v h=>DF_ok rfl En_mixed rfl En_ok Tryd.func36 rfl rfl (by decide) ((tabs_Wider_dq a).trans h)⟩
theorem tabs_Usual_dq (a:HT (Sh.hss [.h (.ti .i64)])):DF En GT (cl [tabs_Wider_c] []) Tryd.f19.ntmps Tryd.f19.results.toList (bodyOf Tryd.f19) (.seq .leaf (.seq (.reg [(2,{con:=0})]) .leaf)) [.h (.ti .i64)] (.st (.tp (.ti .u64) Kf613)) a = tabs_Usual a:=by kernel_rfl
noncomputable def tabs_Usual_c:PCon En:=⟨19,[.h (.ti .i64)],.st (.tp (.ti .u64) Kf613),fun a=>tabs_Usual a,Tryd.call19,fun a v h=>DF_ok rfl En_mixed rfl En_ok Tryd.func19 rfl rfl (by decide) ((tabs_Usual_dq a).trans h)⟩
theorem screen_New_dq (a:HT (Sh.hss [.h (.ti .i64),.h (.ti .i64)])):DF En GT (cl [tabs_Usual_c] [grid_Blank_d0d_c]) Tryd.f9.ntmps Tryd.f9.results.toList (bodyOf Tryd.f9) (.seq .leaf (.seq (.reg [(3,{io:=some 0})]) (.seq (.join ⟨[(13,.h .tb)],[11,12],[],[],[]⟩ (.reg [(2,{split:=true})]) .leaf) (.seq (.reg [(6,{con:=0})]) .leaf)))) [.h (.ti .i64),.h (.ti .i64)] (.tup [.st (.tp (.ti .i64) (.tp (.ti .i64) K05d1)),.h (.ti .i64)]) a = screen_New a.1 a.2:=by kernel_rfl
noncomputable def screen_New_c:PCon En:=⟨9,[.h (.ti .i64),.h (.ti .i64)],.tup [.st (.tp (.ti .i64) (.tp (.ti .i64) K05d1)),.h (.ti .i64)],fun a=>screen_New a.1 a.2,Tryd.call9,fun a v h=>DF_ok rfl En_mixed rfl En_ok Tryd.func9 rfl rfl (by decide) ((screen_New_dq a).trans h)⟩
def cols_Of_1_030_ar:List Sh:=[.h (.ti .i64),.ptr 0 0]
def cols_Of_1_030_ls:List (Nat × LSh):=[(0,.cs [.h (.ti .i32)])]
def cols_Of_1_030_ot:Tm:=⟨[(0,.h .tb)],[],[],[],[]⟩
theorem cols_Of_1_030_dq (a:HT (Sh.hss cols_Of_1_030_ar ++ hsL cols_Of_1_030_ls)):DI En GT noC Tryd.f65.ntmps Tryd.f65.results.toList (bodyOf Tryd.f65) .leaf cols_Of_1_030_ar cols_Of_1_030_ls cols_Of_1_030_ot a = cols_Of_1_030 a.1 a.2:=by kernel_rfl
noncomputable def cols_Of_1_030_c:ICon En:=⟨65,cols_Of_1_030_ar,cols_Of_1_030_ls,cols_Of_1_030_ot,fun a=>cols_Of_1_030 a.1 a.2,Tryd.call65,fun a v h=>DI_ok rfl En_mixed rfl En_ok Tryd.func65 rfl ⟨rfl,rfl,rfl,rfl⟩ ((cols_Of_1_030_dq a).trans h)⟩
def sort_Search_4a9_ar:List Sh:=[.h (.ti .i64),.fn 65 [.ptr 0 0]]
def sort_Search_4a9_ls:List (Nat × LSh):=[(0,.cs [.h (.ti .i32)])]
def sort_Search_4a9_ot:Tm:=⟨[(0,.h (.ti .i64))],[],[],[],[]⟩
theorem sort_Search_4a9_dq (a:HT (Sh.hss sort_Search_4a9_ar ++ hsL sort_Search_4a9_ls)):DI En GT (cl [] [cols_Of_1_030_c]) Tryd.f64.ntmps Tryd.f64.results.toList (bodyOf Tryd.f64) (.seq .leaf (.seq .leaf (.seq (.blk (.loop ⟨[(5,.h (.ti .i64)),(6,.h (.ti .i64))],([7] ++ rg 9 16),[],[],[]⟩ [(.exit 0,⟨[(5,.h (.ti .i64))],([6,7] ++ rg 9 16),[],[],[]⟩)] (.seq (.join ⟨[(11,.h .tb)],[9,10],[],[],[]⟩ (.reg [(2,{split:=true})]) .leaf) (.blk (.seq .leaf (.join ⟨[(21,.h .tb)],[18,19,20],[],[],[]⟩ (.reg [(2,{io:=some 0}),(3,{split:=true})]) .leaf)))))) .leaf))) sort_Search_4a9_ar sort_Search_4a9_ls sort_Search_4a9_ot a = sort_Search_4a9 a.1 a.2:=by kernel_rfl
noncomputable def sort_Search_4a9_c:ICon En:=⟨64,sort_Search_4a9_ar,sort_Search_4a9_ls,sort_Search_4a9_ot,fun a=>sort_Search_4a9 a.1 a.2,Tryd.call64,fun a v h=>DI_ok rfl En_mixed rfl En_ok Tryd.func64 rfl ⟨rfl,rfl,rfl,rfl⟩ ((sort_Search_4a9_dq a).trans h)⟩
theorem cols_Of_dq (a:HT (Sh.hss [.h (.ti .i32)])):DF En GT (cl [] [sort_Search_4a9_c]) Tryd.f40.ntmps Tryd.f40.results.toList (bodyOf Tryd.f40) (.seq .leaf (.seq (.join ⟨[(25,.h .tb)],(rg 4 21),[],[],[]⟩ (.reg [(2,{split:=true}),(5,{split:=true}),(10,{split:=true}),(13,{split:=true}),(18,{split:=true}),(21,{split:=true})]) .leaf) (.seq (.reg [(1,{io:=some 0})]) (.seq (.join ⟨[(37,.h .tb)],(rg 28 9),[],[],[]⟩ (.reg [(2,{split:=true}),(9,{split:=true})]) .leaf) .leaf)))) [.h (.ti .i32)] (.h (.ti .i64)) a = cols_Of a:=by kernel_rfl
noncomputable def cols_Of_c:PCon En:=⟨40,[.h (.ti .i32)],.h (.ti .i64),fun a=>cols_Of a,Tryd.call40,fun a v h=>DF_ok rfl En_mixed rfl En_ok Tryd.func40 rfl rfl (by decide) ((cols_Of_dq a).trans h)⟩
theorem line_marked_dq (a:HT (Sh.hss [.st (.tp (.ti .i32) (.ti .i32))])):DF En GT (cl [cols_Of_c] []) Tryd.f99.ntmps Tryd.f99.results.toList (bodyOf Tryd.f99) (.seq .leaf (.seq (.join ⟨[(5,.h .tb)],[3,4],[],[],[]⟩ (.reg [(2,{split:=true})]) .leaf) (.seq (.reg [(2,{con:=0}),(4,{split:=true}),(8,{split:=true}),(11,{con:=0})]) .leaf))) [.st (.tp (.ti .i32) (.ti .i32))] (.h .tb) a = line_marked a:=by kernel_rfl
noncomputable def line_marked_c:PCon En:=⟨99,[.st (.tp (.ti .i32) (.ti .i32))],.h .tb,fun a=>line_marked a,Tryd.call99,fun a v h=>DF_ok rfl En_mixed rfl En_ok Tryd.func99 rfl rfl (by decide) ((line_marked_dq a).trans h)⟩
theorem line_may_dq (a:HT (Sh.hss [.st (.tp (.ti .i32) K72c5)])):DF En GT (cl [pen_May_c,cols_Of_c,line_marked_c] []) Tryd.f93.ntmps Tryd.f93.results.toList (bodyOf Tryd.f93) (.seq .leaf (.seq (.seq .leaf (.blk (.join ⟨[(5,.h .tb)],[6,7],[],[],[]⟩ (.join ⟨[(5,.h .tb)],[6],[],[],[]⟩ (.reg [(1,{split:=true})]) (.cond .leaf (.reg [(1,{split:=true})]))) (.cond (.seq (.reg [(2,{con:=0}),(3,{split:=true}),(6,{con:=1}),(12,{split:=true}),(15,{con:=2})]) .leaf) (.join ⟨[(25,.h .tb)],[26],[],[],[]⟩ (.reg [(1,{split:=true})]) (.cond (.seq (.reg [(2,{con:=0}),(3,{split:=true})]) .leaf) .leaf)))))) .leaf)) [.st (.tp (.ti .i32) K72c5)] (.h .tb) a = line_may a:=by kernel_rfl
noncomputable def line_may_c:PCon En:=⟨93,[.st (.tp (.ti .i32) K72c5)],.h .tb,fun a=>line_may a,Tryd.call93,fun a v h=>DF_ok rfl En_mixed rfl En_ok Tryd.func93 rfl rfl (by decide) ((line_may_dq a).trans h)⟩
theorem line_May_dq (a:HT (Sh.hss [.h (.tl (.tp (.ti .i32) K72c5))])):DF En GT (cl [line_may_c] []) Tryd.f81.ntmps Tryd.f81.results.toList (bodyOf Tryd.f81) (.seq .leaf (.seq (.join ⟨[(8,.h .tb)],[6,7],[],[],[]⟩ (.reg [(2,{split:=true})]) .leaf) (.seq (.seq .leaf (.blk (.loop ⟨[(11,.h (.ti .i64))],([3,4,5] ++ rg 12 52),[],[],[]⟩ [(.ret,⟨[(2,.k (.bool false))],([3,4,5] ++ rg 11 53),[],[],[]⟩),(.exit 0,⟨[],([3,4,5] ++ rg 11 53),[],[],[]⟩)] (.join ⟨[(12,.h .tb)],[],[],[],[]⟩ (.reg [(0,{split:=true})]) (.seq .leaf (.seq (.blk (.seq .leaf (.join ⟨[(5,.h .tb)],(rg 16 11),[],[],[]⟩ (.reg [(2,{split:=true})]) (.join ⟨[(62,.h .tb)],(rg 27 35),[],[],[]⟩ (.reg [(1,{con:=0}),(3,{split:=true}),(10,{split:=true}),(12,{split:=true}),(24,{split:=true}),(28,{split:=true}),(35,{split:=true})]) .leaf)))) .leaf)))))) .leaf))) [.h (.tl (.tp (.ti .i32) K72c5))] (.h .tb) a = line_May a:=by kernel_rfl
noncomputable def line_May_c:PCon En:=⟨81,[.h (.tl (.tp (.ti .i32) K72c5))],.h .tb,fun a=>line_May a,Tryd.call81,fun a v h=>DF_ok rfl En_mixed rfl En_ok Tryd.func81 rfl rfl (by decide) ((line_May_dq a).trans h)⟩
def grid_May_1_649_ar:List Sh:=[.h (.tl (.tp (.ti .i32) K72c5)),.ptr 0 0]
def grid_May_1_649_ls:List (Nat × LSh):=[(0,.cs [.h (.tl (.tl (.tp (.ti .i32) K72c5)))])]
def grid_May_1_649_ot:Tm:=⟨[(0,.h .tb)],[],[],[],[]⟩
theorem grid_May_1_649_dq (a:HT (Sh.hss grid_May_1_649_ar ++ hsL grid_May_1_649_ls)):DI En GT (cl [line_May_c] []) Tryd.f80.ntmps Tryd.f80.results.toList (bodyOf Tryd.f80) (.seq .leaf (.seq (.reg [(7,{split:=true}),(9,{con:=0})]) .leaf)) grid_May_1_649_ar grid_May_1_649_ls grid_May_1_649_ot a = grid_May_1_649 a.1 a.2:=by kernel_rfl
noncomputable def grid_May_1_649_c:ICon En:=⟨80,grid_May_1_649_ar,grid_May_1_649_ls,grid_May_1_649_ot,fun a=>grid_May_1_649 a.1 a.2,Tryd.call80,fun a v h=>DI_ok rfl En_mixed rfl En_ok Tryd.func80 rfl ⟨rfl,rfl,rfl,rfl⟩ ((grid_May_1_649_dq a).trans h)⟩
def slices_IndexFunc_dd0_ar:List Sh:=[.h (.tl (.tl (.tp (.ti .i32) K72c5))),.fn 80 [.ptr 0 0]]
def slices_IndexFunc_dd0_ls:List (Nat × LSh):=[(0,.cs [.h (.tl (.tl (.tp (.ti .i32) K72c5)))])]
def slices_IndexFunc_dd0_ot:Tm:=⟨[(0,.h (.ti .i64))],[],[],[],[]⟩
theorem slices_IndexFunc_dd0_dq (a:HT (Sh.hss slices_IndexFunc_dd0_ar ++ hsL slices_IndexFunc_dd0_ls)):DI En GT (cl [] [grid_May_1_649_c]) Tryd.f92.ntmps Tryd.f92.results.toList (bodyOf Tryd.f92) (.seq .leaf (.seq (.seq .leaf (.blk (.loop ⟨[(8,.h (.ti .i64))],([5] ++ rg 9 8 ++ [18]),[],[],[]⟩ [(.ret,⟨[(4,.h (.ti .i64))],([5] ++ rg 8 11),[],[],[]⟩),(.exit 0,⟨[],([5] ++ rg 8 9 ++ [18]),[],[],[]⟩)] (.join ⟨[(9,.h .tb)],[],[],[],[]⟩ (.reg [(0,{split:=true})]) (.seq .leaf (.seq (.blk (.seq .leaf (.join ⟨[(16,.h .tb)],[11,12,13,14,15],[],[],[]⟩ (.reg [(5,{split:=true,io:=some 0})]) .leaf))) .leaf)))))) .leaf)) slices_IndexFunc_dd0_ar slices_IndexFunc_dd0_ls slices_IndexFunc_dd0_ot a = slices_IndexFunc_dd0 a.1 a.2:=by kernel_rfl
noncomputable def slices_IndexFunc_dd0_c:ICon En:=⟨92,slices_IndexFunc_dd0_ar,slices_IndexFunc_dd0_ls,slices_IndexFunc_dd0_ot,fun a=>slices_IndexFunc_dd0 a.1 a.2,Tryd.call92,fun a v h=>DI_ok rfl En_mixed rfl En_ok Tryd.func92 rfl ⟨rfl,rfl,rfl,rfl⟩ ((slices_IndexFunc_dd0_dq a).trans h)⟩
def slices_ContainsFunc_dd0_ar:List Sh:=[.h (.tl (.tl (.tp (.ti .i32) K72c5))),.fn 80 [.ptr 0 0]]
def slices_ContainsFunc_dd0_ls:List (Nat × LSh):=[(0,.cs [.h (.tl (.tl (.tp (.ti .i32) K72c5)))])]
def slices_ContainsFunc_dd0_ot:Tm:=⟨[(0,.h .tb)],[],[],[],[]⟩
theorem slices_ContainsFunc_dd0_dq (a:HT (Sh.hss slices_ContainsFunc_dd0_ar ++ hsL slices_ContainsFunc_dd0_ls)):DI En GT (cl [] [slices_IndexFunc_dd0_c]) Tryd.f79.ntmps Tryd.f79.results.toList (bodyOf Tryd.f79) (.seq .leaf (.seq (.reg [(2,{io:=some 0})]) .leaf)) slices_ContainsFunc_dd0_ar slices_ContainsFunc_dd0_ls slices_ContainsFunc_dd0_ot a = slices_ContainsFunc_dd0 a.1 a.2:=by kernel_rfl
noncomputable def slices_ContainsFunc_dd0_c:ICon En:=⟨79,slices_ContainsFunc_dd0_ar,slices_ContainsFunc_dd0_ls,slices_ContainsFunc_dd0_ot,fun a=>slices_ContainsFunc_dd0 a.1 a.2,Tryd.call79,fun a v h=>DI_ok rfl En_mixed rfl En_ok Tryd.func79 rfl ⟨rfl,rfl,rfl,rfl⟩ ((slices_ContainsFunc_dd0_dq a).trans h)⟩
theorem grid_May_dq (a:HT (Sh.hss [.h (.tl (.tl (.tp (.ti .i32) K72c5)))])):DF En GT (cl [grid_side_c] [slices_ContainsFunc_dd0_c]) Tryd.f51.ntmps Tryd.f51.results.toList (bodyOf Tryd.f51) (.seq .leaf (.seq (.join ⟨[(14,.h .tb)],(rg 3 11),[],[],[]⟩ (.reg [(2,{con:=0}),(4,{split:=true}),(9,{con:=0}),(11,{split:=true})]) .leaf) (.seq (.reg [(2,{io:=some 0})]) .leaf))) [.h (.tl (.tl (.tp (.ti .i32) K72c5)))] (.h .tb) a = grid_May a:=by kernel_rfl
noncomputable def grid_May_c:PCon En:=⟨51,[.h (.tl (.tl (.tp (.ti .i32) K72c5)))],.h .tb,fun a=>grid_May a,Tryd.call51,fun a v h=>DF_ok rfl En_mixed rfl En_ok Tryd.func51 rfl rfl (by decide) ((grid_May_dq a).trans h)⟩
theorem screen_sized_dq (a:HT (Sh.hss [.h (.tl (.tl (.tp (.ti .i32) K72c5))),.st (.tp (.ti .i64) (.tp (.ti .i64) K05d1))])):DF En GT (cl [grid_May_c] []) Tryd.f31.ntmps Tryd.f31.results.toList (bodyOf Tryd.f31) (.seq .leaf (.seq (.reg [(1,{con:=0}),(2,{split:=true}),(9,{split:=true})]) .leaf)) [.h (.tl (.tl (.tp (.ti .i32) K72c5))),.st (.tp (.ti .i64) (.tp (.ti .i64) K05d1))] (.h .tb) a = screen_sized a.1 a.2:=by kernel_rfl
noncomputable def screen_sized_c:PCon En:=⟨31,[.h (.tl (.tl (.tp (.ti .i32) K72c5))),.st (.tp (.ti .i64) (.tp (.ti .i64) K05d1))],.h .tb,fun a=>screen_sized a.1 a.2,Tryd.call31,fun a v h=>DF_ok rfl En_mixed rfl En_ok Tryd.func31 rfl rfl (by decide) ((screen_sized_dq a).trans h)⟩
def screen_May_1_1b3_ar:List Sh:=[.h (.ti .i64),.ptr 0 0]
def screen_May_1_1b3_ls:List (Nat × LSh):=[(0,.cs [.h (.ti .i64),.h (.ti .i64),.h (.tl (.tl (.tp (.ti .i32) K72c5))),.h (.tl (.tl (.tp (.ti .i32) K72c5))),.h (.ti .i64),.h (.ti .i64),.h .tb,.h (.ti .i64),.h (.ti .i64),.h (.ti .i64),.h (.ti .i64),.h (.ti .i64),.h (.ti .i64),.h (.ti .i64),.h (.ti .i64),.h (.ti .i64),.h (.ti .i64),.h (.ti .i64),.h .tb,.h .tb,.h (.ti .i64),.h (.ti .i64),.h (.ti .i64),.h (.ti .i64),.h (.ti .i64),.h .tb,.h .tb,.h (.ti .u64),.h (.ti .u64),.h (.ti .u64),.h (.ti .u64),.h (.tl (.ti .i32))])]
def screen_May_1_1b3_ot:Tm:=⟨[(0,.h .tb)],[],[],[],[]⟩
theorem screen_May_1_1b3_dq (a:HT (Sh.hss screen_May_1_1b3_ar ++ hsL screen_May_1_1b3_ls)):DI En GT noC Tryd.f32.ntmps Tryd.f32.results.toList (bodyOf Tryd.f32) (.seq .leaf (.seq (.reg [(2,{split:=true})]) .leaf)) screen_May_1_1b3_ar screen_May_1_1b3_ls screen_May_1_1b3_ot a = screen_May_1_1b3 a.1 a.2.1:=by kernel_rfl
noncomputable def screen_May_1_1b3_c:ICon En:=⟨32,screen_May_1_1b3_ar,screen_May_1_1b3_ls,screen_May_1_1b3_ot,fun a=>screen_May_1_1b3 a.1 a.2.1,Tryd.call32,fun a v h=>DI_ok rfl En_mixed rfl En_ok Tryd.func32 rfl ⟨rfl,rfl,rfl,rfl⟩ ((screen_May_1_1b3_dq a).trans h)⟩
theorem screen_spot_1_dq (a:HT (Sh.hss [.h (.ti .i64)])):DF En GT noC Tryd.f52.ntmps Tryd.f52.results.toList (bodyOf Tryd.f52) (.seq .leaf (.seq (.reg [(2,{split:=true})]) .leaf)) [.h (.ti .i64)] (.h .tb) a = screen_spot_1 a:=by kernel_rfl
noncomputable def screen_spot_1_c:PCon En:=⟨52,[.h (.ti .i64)],.h .tb,fun a=>screen_spot_1 a,Tryd.call52,fun a v h=>DF_ok rfl En_mixed rfl En_ok Tryd.func52 rfl rfl (by decide) ((screen_spot_1_dq a).trans h)⟩
theorem screen_spot_dq (a:HT (Sh.hss [.st K36e7])):DF En GT (cl [screen_spot_1_c,pen_May_c] []) Tryd.f33.ntmps Tryd.f33.results.toList (bodyOf Tryd.f33) (.seq .leaf (.seq .leaf (.seq (.reg [(3,{con:=0}),(4,{split:=true}),(8,{con:=0}),(10,{split:=true}),(13,{con:=1})]) .leaf))) [.st K36e7] (.h .tb) a = screen_spot a:=by kernel_rfl
noncomputable def screen_spot_c:PCon En:=⟨33,[.st K36e7],.h .tb,fun a=>screen_spot a,Tryd.call33,fun a v h=>DF_ok rfl En_mixed rfl En_ok Tryd.func33 rfl rfl (by decide) ((screen_spot_dq a).trans h)⟩
theorem screen_titled_1_dq (a:HT (Sh.hss [.h (.ti .i32)])):DF En GT (cl [cols_Of_c] []) Tryd.f54.ntmps Tryd.f54.results.toList (bodyOf Tryd.f54) (.seq .leaf (.seq (.reg [(1,{con:=0})]) .leaf)) [.h (.ti .i32)] (.h .tb) a = screen_titled_1 a:=by kernel_rfl
noncomputable def screen_titled_1_c:PCon En:=⟨54,[.h (.ti .i32)],.h .tb,fun a=>screen_titled_1 a,Tryd.call54,fun a v h=>DF_ok rfl En_mixed rfl En_ok Tryd.func54 rfl rfl (by decide) ((screen_titled_1_dq a).trans h)⟩
theorem slices_IndexFunc_c49_dq (a:HT (Sh.hss [.h (.tl (.ti .i32)),.fn 54 []])):DF En GT (cl [screen_titled_1_c] []) Tryd.f82.ntmps Tryd.f82.results.toList (bodyOf Tryd.f82) (.seq .leaf (.seq (.seq .leaf (.blk (.loop ⟨[(8,.h (.ti .i64))],([5] ++ rg 9 8 ++ [18]),[],[],[]⟩ [(.ret,⟨[(4,.h (.ti .i64))],([5] ++ rg 8 11),[],[],[]⟩),(.exit 0,⟨[],([5] ++ rg 8 9 ++ [18]),[],[],[]⟩)] (.join ⟨[(9,.h .tb)],[],[],[],[]⟩ (.reg [(0,{split:=true})]) (.seq .leaf (.seq (.blk (.seq .leaf (.join ⟨[(16,.h .tb)],[11,12,13,14,15],[],[],[]⟩ (.reg [(5,{split:=true,con:=0})]) .leaf))) .leaf)))))) .leaf)) [.h (.tl (.ti .i32)),.fn 54 []] (.h (.ti .i64)) a = slices_IndexFunc_c49 a:=by kernel_rfl
noncomputable def slices_IndexFunc_c49_c:PCon En:=⟨82,[.h (.tl (.ti .i32)),.fn 54 []],.h (.ti .i64),fun a=>slices_IndexFunc_c49 a,Tryd.call82,fun a v h=>DF_ok rfl En_mixed rfl En_ok Tryd.func82 rfl rfl (by decide) ((slices_IndexFunc_c49_dq a).trans h)⟩
theorem slices_ContainsFunc_c49_dq (a:HT (Sh.hss [.h (.tl (.ti .i32)),.fn 54 []])):DF En GT (cl [slices_IndexFunc_c49_c] []) Tryd.f53.ntmps Tryd.f53.results.toList (bodyOf Tryd.f53) (.seq .leaf (.seq (.reg [(2,{con:=0})]) .leaf)) [.h (.tl (.ti .i32)),.fn 54 []] (.h .tb) a = slices_ContainsFunc_c49 a:=by kernel_rfl
noncomputable def slices_ContainsFunc_c49_c:PCon En:=⟨53,[.h (.tl (.ti .i32)),.fn 54 []],.h .tb,fun a=>slices_ContainsFunc_c49 a,Tryd.call53,fun a v h=>DF_ok rfl En_mixed rfl En_ok Tryd.func53 rfl rfl (by decide) ((slices_ContainsFunc_c49_dq a).trans h)⟩
theorem screen_titled_dq (a:HT (Sh.hss [.h (.tl (.ti .i32))])):DF En GT (cl [slices_ContainsFunc_c49_c] []) Tryd.f34.ntmps Tryd.f34.results.toList (bodyOf Tryd.f34) (.seq .leaf (.seq (.reg [(3,{split:=true}),(5,{con:=0})]) .leaf)) [.h (.tl (.ti .i32))] (.h .tb) a = screen_titled a:=by kernel_rfl
noncomputable def screen_titled_c:PCon En:=⟨34,[.h (.tl (.ti .i32))],.h .tb,fun a=>screen_titled a,Tryd.call34,fun a v h=>DF_ok rfl En_mixed rfl En_ok Tryd.func34 rfl rfl (by decide) ((screen_titled_dq a).trans h)⟩
theorem screen_May_dq (a:HT (Sh.hss [.st (.tp (.ti .i64) (.tp (.ti .i64) K05d1))])):DF En GT (cl [screen_sized_c,pen_May_c,screen_spot_c,screen_titled_c] [screen_May_1_1b3_c]) Tryd.f17.ntmps Tryd.f17.results.toList (bodyOf Tryd.f17) (.seq .leaf (.seq .leaf (.seq (.join ⟨[(31,.h .tb)],(rg 9 22),[],[],[]⟩ (.reg [(3,{con:=0}),(5,{split:=true}),(13,{split:=true}),(15,{split:=true}),(19,{con:=0}),(22,{split:=true})]) .leaf) (.seq .leaf (.seq (.join ⟨[(75,.h .tb)],(rg 33 42),[],[],[]⟩ (.reg [(3,{io:=some 0}),(5,{split:=true}),(9,{io:=some 0}),(12,{split:=true}),(16,{io:=some 0}),(19,{split:=true}),(24,{split:=true}),(31,{split:=true}),(34,{split:=true}),(42,{split:=true})]) .leaf) (.seq (.join ⟨[(95,.h .tb)],(rg 76 19),[],[],[]⟩ (.reg [(5,{split:=true}),(10,{split:=true}),(15,{split:=true}),(19,{split:=true})]) .leaf) (.seq (.reg [(2,{con:=1}),(3,{split:=true}),(7,{con:=2}),(9,{split:=true}),(13,{con:=2}),(15,{split:=true}),(18,{con:=3})]) .leaf))))))) [.st (.tp (.ti .i64) (.tp (.ti .i64) K05d1))] (.h .tb) a = screen_May a:=by kernel_rfl
noncomputable def screen_May_c:PCon En:=⟨17,[.st (.tp (.ti .i64) (.tp (.ti .i64) K05d1))],.h .tb,fun a=>screen_May a,Tryd.call17,fun a v h=>DF_ok rfl En_mixed rfl En_ok Tryd.func17 rfl rfl (by decide) ((screen_May_dq a).trans h)⟩
theorem slices_Clone_4da_dq (a:HT (Sh.hss [.h (.tl (.tp (.ti .i32) K72c5))])):DFF En GT noC Tryd.f37.ntmps Tryd.f37.results.toList (bodyOf Tryd.f37) (.seq .leaf (.seq (.seq (.reg [(1,{nq:=true})]) .leaf) .leaf)) [.h (.tl (.tp (.ti .i32) K72c5))] 1 (.tp (.ti .i32) K72c5) a = slices_Clone_4da_raw a:=by kernel_rfl
noncomputable def slices_Clone_4da_c:PCon En:=⟨37,[.h (.tl (.tp (.ti .i32) K72c5))],.h (.tf 1 (.tp (.ti .i32) K72c5)),fun a=>slices_Clone_4da a,Tryd.call37,fun a v h=>DFF_ok rfl En_mixed rfl En_ok Tryd.func37 rfl rfl (by decide) ((slices_Clone_4da_dq a).trans (slices_Clone_4da_law a h))⟩
def screen_copied_ed7_ar:List Sh:=[.h (.tl (.tl (.tp (.ti .i32) K72c5)))]
def screen_copied_ed7_ls:List (Nat × LSh):=[(1000,.cs []),(1001,.cs [])]
def screen_copied_ed7_ot:Tm:=⟨[(0,.rww 0 1)],[],[(0,.ls (.tf 1 (.tp (.ti .i32) K72c5)))],[],[]⟩
theorem screen_copied_ed7_dq (a:HT (Sh.hss screen_copied_ed7_ar ++ hsL screen_copied_ed7_ls)):DI En GT (cl [slices_Clone_4da_c] []) Tryd.f20.ntmps Tryd.f20.results.toList (bodyOf Tryd.f20) (.seq .leaf (.seq .leaf (.seq (.seq .leaf (.blk (.loop ⟨[(3,.rww 0 1),(8,.h (.ti .i64))],([5] ++ rg 9 9),[(0,.ls (.tf 1 (.tp (.ti .i32) K72c5)))],[],[]⟩ [(.exit 0,⟨[(3,.rww 0 1)],([5] ++ rg 8 10),[(0,.ls (.tf 1 (.tp (.ti .i32) K72c5)))],[],[]⟩)] (.join ⟨[(9,.h .tb)],[],[],[],[]⟩ (.reg [(0,{split:=true})]) (.seq .leaf (.seq (.blk (.seq .leaf (.reg [(2,{con:=0}),(4,{fq:=1})]))) .leaf)))))) .leaf))) screen_copied_ed7_ar screen_copied_ed7_ls screen_copied_ed7_ot a = screen_copied_ed7 a:=by kernel_rfl
noncomputable def screen_copied_ed7_c:ICon En:=⟨20,screen_copied_ed7_ar,screen_copied_ed7_ls,screen_copied_ed7_ot,fun a=>screen_copied_ed7 a,Tryd.call20,fun a v h=>DI_ok rfl En_mixed rfl En_ok Tryd.func20 rfl ⟨rfl,rfl,rfl,rfl⟩ ((screen_copied_ed7_dq a).trans h)⟩
theorem slices_Clone_6e9_dq (a:HT (Sh.hss [.h (.tl (.tp (.ti .i32) K72c5))])):DFF En GT noC Tryd.f37.ntmps Tryd.f37.results.toList (bodyOf Tryd.f37) (.seq .leaf (.seq (.seq (.reg [(1,{nq:=true})]) .leaf) .leaf)) [.h (.tl (.tp (.ti .i32) K72c5))] 2 (.tp (.ti .i32) K72c5) a = slices_Clone_6e9_raw a:=by kernel_rfl
noncomputable def slices_Clone_6e9_c:PCon En:=⟨37,[.h (.tl (.tp (.ti .i32) K72c5))],.h (.tf 2 (.tp (.ti .i32) K72c5)),fun a=>slices_Clone_6e9 a,Tryd.call37,fun a v h=>DFF_ok rfl En_mixed rfl En_ok Tryd.func37 rfl rfl (by decide) ((slices_Clone_6e9_dq a).trans (slices_Clone_6e9_law a h))⟩
def screen_copied_b13_ar:List Sh:=[.h (.tl (.tl (.tp (.ti .i32) K72c5)))]
def screen_copied_b13_ls:List (Nat × LSh):=[(1000,.cs []),(1001,.cs [])]
def screen_copied_b13_ot:Tm:=⟨[(0,.rww 0 1)],[],[(0,.ls (.tf 2 (.tp (.ti .i32) K72c5)))],[],[]⟩
theorem screen_copied_b13_dq (a:HT (Sh.hss screen_copied_b13_ar ++ hsL screen_copied_b13_ls)):DI En GT (cl [slices_Clone_6e9_c] []) Tryd.f20.ntmps Tryd.f20.results.toList (bodyOf Tryd.f20) (.seq .leaf (.seq .leaf (.seq (.seq .leaf (.blk (.loop ⟨[(3,.rww 0 1),(8,.h (.ti .i64))],([5] ++ rg 9 9),[(0,.ls (.tf 2 (.tp (.ti .i32) K72c5)))],[],[]⟩ [(.exit 0,⟨[(3,.rww 0 1)],([5] ++ rg 8 10),[(0,.ls (.tf 2 (.tp (.ti .i32) K72c5)))],[],[]⟩)] (.join ⟨[(9,.h .tb)],[],[],[],[]⟩ (.reg [(0,{split:=true})]) (.seq .leaf (.seq (.blk (.seq .leaf (.reg [(2,{con:=0}),(4,{fq:=2})]))) .leaf)))))) .leaf))) screen_copied_b13_ar screen_copied_b13_ls screen_copied_b13_ot a = screen_copied_b13 a:=by kernel_rfl
noncomputable def screen_copied_b13_c:ICon En:=⟨20,screen_copied_b13_ar,screen_copied_b13_ls,screen_copied_b13_ot,fun a=>screen_copied_b13 a,Tryd.call20,fun a v h=>DI_ok rfl En_mixed rfl En_ok Tryd.func20 rfl ⟨rfl,rfl,rfl,rfl⟩ ((screen_copied_b13_dq a).trans h)⟩
def slices_Clone_b44_ar:List Sh:=[.h (.tl (.ti .i32))]
def slices_Clone_b44_ls:List (Nat × LSh):=[]
def slices_Clone_b44_ot:Tm:=⟨[(0,.rww 0 1)],[],[(0,.ls (.ti .i32))],[],[]⟩
theorem slices_Clone_b44_dq (a:HT (Sh.hss slices_Clone_b44_ar ++ hsL slices_Clone_b44_ls)):DI En GT noC Tryd.f21.ntmps Tryd.f21.results.toList (bodyOf Tryd.f21) (.seq .leaf (.seq (.seq (.reg [(1,{nq:=true})]) .leaf) .leaf)) slices_Clone_b44_ar slices_Clone_b44_ls slices_Clone_b44_ot a = slices_Clone_b44_raw a:=by kernel_rfl
noncomputable def slices_Clone_b44_c:ICon En:=⟨21,slices_Clone_b44_ar,slices_Clone_b44_ls,slices_Clone_b44_ot,fun a=>slices_Clone_b44 a,Tryd.call21,fun a v h=>DI_ok rfl En_mixed rfl En_ok Tryd.func21 rfl ⟨rfl,rfl,rfl,rfl⟩ ((slices_Clone_b44_dq a).trans (slices_Clone_b44_law h))⟩
theorem screen_between_dq (a:HT (Sh.hss [.h (.ti .i64),.h (.ti .i64),.h (.ti .i64)])):DF En GT noC Tryd.f22.ntmps Tryd.f22.results.toList (bodyOf Tryd.f22) .leaf [.h (.ti .i64),.h (.ti .i64),.h (.ti .i64)] (.h (.ti .i64)) a = screen_between a.1 a.2.1 a.2.2:=by kernel_rfl
noncomputable def screen_between_c:PCon En:=⟨22,[.h (.ti .i64),.h (.ti .i64),.h (.ti .i64)],.h (.ti .i64),fun a=>screen_between a.1 a.2.1 a.2.2,Tryd.call22,fun a v h=>DF_ok rfl En_mixed rfl En_ok Tryd.func22 rfl rfl (by decide) ((screen_between_dq a).trans h)⟩
def slices_Clone_0e3_ar:List Sh:=[.h (.tl (.tp (.ti .i32) K72c5))]
def slices_Clone_0e3_ls:List (Nat × LSh):=[]
def slices_Clone_0e3_ot:Tm:=⟨[(0,.rww 0 7)],[],[(0,.ls (.tp (.ti .i32) K72c5))],[],[]⟩
theorem slices_Clone_0e3_dq (a:HT (Sh.hss slices_Clone_0e3_ar ++ hsL slices_Clone_0e3_ls)):DI En GT noC Tryd.f37.ntmps Tryd.f37.results.toList (bodyOf Tryd.f37) (.seq .leaf (.seq (.seq (.reg [(1,{nq:=true})]) .leaf) .leaf)) slices_Clone_0e3_ar slices_Clone_0e3_ls slices_Clone_0e3_ot a = slices_Clone_0e3_raw a:=by kernel_rfl
noncomputable def slices_Clone_0e3_c:ICon En:=⟨37,slices_Clone_0e3_ar,slices_Clone_0e3_ls,slices_Clone_0e3_ot,fun a=>slices_Clone_0e3 a,Tryd.call37,fun a v h=>DI_ok rfl En_mixed rfl En_ok Tryd.func37 rfl ⟨rfl,rfl,rfl,rfl⟩ ((slices_Clone_0e3_dq a).trans (slices_Clone_0e3_law h))⟩
theorem line_Mark_5ae_dq (a:HT (Sh.hss [.h (.tl (.tp (.ti .i32) K72c5)),.h (.ti .i64),.h (.ti .i32)])):DFF En GT (cl [line_May_c,cols_Of_c] [slices_Clone_0e3_c]) Tryd.f55.ntmps Tryd.f55.results.toList (bodyOf Tryd.f55) (.seq .leaf (.seq (.join ⟨[(12,.h .tb)],[10,11],[],[],[]⟩ (.reg [(1,{con:=0}),(2,{split:=true})]) .leaf) (.seq (.reg [(1,{io:=some 0})]) (.seq (.join ⟨[(27,.h .tb)],(rg 15 12),[],[],[]⟩ (.reg [(2,{split:=true}),(8,{split:=true}),(10,{con:=1}),(12,{split:=true})]) .leaf) (.join ⟨[(1,.h (.ti .i64))],(rg 29 8),[],[],[]⟩ (.join ⟨[(34,.h .tb)],[29,30,31,32,33],[],[],[]⟩ (.reg [(5,{split:=true})]) .leaf) (.seq (.seq .leaf (.blk (.loop ⟨[(42,.h (.ti .i64))],([8,9] ++ rg 43 5 ++ [55]),[],[],[]⟩ [(.exit 0,⟨[],([8,9] ++ rg 42 14),[(0,.ls (.tp (.ti .i32) K72c5))],[],[]⟩)] (.join ⟨[(43,.h .tb)],[],[],[],[]⟩ (.reg [(0,{split:=true})]) (.seq .leaf (.seq (.blk (.join ⟨[(8,.h (.ti .i64)),(9,.h (.ti .i32))],[44,45],[],[],[]⟩ (.reg [(1,{sel:=true})]) (.join ⟨[(47,.h .tb)],[46],[],[],[]⟩ (.reg [(1,{split:=true})]) (.cond (.seq (.reg [(6,{sel:=true})]) .leaf) .leaf)))) .leaf)))))) .leaf)))))) [.h (.tl (.tp (.ti .i32) K72c5)),.h (.ti .i64),.h (.ti .i32)] 1 (.tp (.ti .i32) K72c5) a = line_Mark_5ae a.1 a.2.1 a.2.2:=by kernel_rfl
noncomputable def line_Mark_5ae_c:PCon En:=⟨55,[.h (.tl (.tp (.ti .i32) K72c5)),.h (.ti .i64),.h (.ti .i32)],.h (.tf 1 (.tp (.ti .i32) K72c5)),fun a=>line_Mark_5ae a.1 a.2.1 a.2.2,Tryd.call55,fun a v h=>DFF_ok rfl En_mixed rfl En_ok Tryd.func55 rfl rfl (by decide) ((line_Mark_5ae_dq a).trans h)⟩
def grid_copied_3fa_ar:List Sh:=[.rww 0 1]
def grid_copied_3fa_ls:List (Nat × LSh):=[(0,.ls (.tf 1 (.tp (.ti .i32) K72c5))),(1000,.cs []),(1001,.cs [])]
def grid_copied_3fa_ot:Tm:=⟨[(0,.rww 1 1)],[],[(1,.ls (.tf 1 (.tp (.ti .i32) K72c5)))],[],[]⟩
theorem grid_copied_3fa_dq (a:HT (Sh.hss grid_copied_3fa_ar ++ hsL grid_copied_3fa_ls)):DI En GT (cl [slices_Clone_4da_c] []) Tryd.f94.ntmps Tryd.f94.results.toList (bodyOf Tryd.f94) (.seq .leaf (.seq (.reg [(2,{fq:=1})]) (.seq (.seq .leaf (.blk (.loop ⟨[(11,.h (.ti .i64))],([4,5] ++ rg 12 10),[(1002,.ls (.tf 1 (.tp (.ti .i32) K72c5)))],[],[]⟩ [(.exit 0,⟨[],([4,5] ++ rg 11 11),[(1002,.ls (.tf 1 (.tp (.ti .i32) K72c5)))],[],[]⟩)] (.join ⟨[(12,.h .tb)],[],[],[],[]⟩ (.reg [(0,{split:=true})]) (.seq .leaf (.seq (.blk (.seq .leaf (.reg [(3,{con:=0})]))) .leaf)))))) .leaf))) grid_copied_3fa_ar grid_copied_3fa_ls grid_copied_3fa_ot a = grid_copied_3fa a:=by kernel_rfl
noncomputable def grid_copied_3fa_c:ICon En:=⟨94,grid_copied_3fa_ar,grid_copied_3fa_ls,grid_copied_3fa_ot,fun a=>grid_copied_3fa a,Tryd.call94,fun a v h=>DI_ok rfl En_mixed rfl En_ok Tryd.func94 rfl ⟨rfl,rfl,rfl,rfl⟩ ((grid_copied_3fa_dq a).trans h)⟩
theorem slices_Repeat_068_dq (a:HT (Sh.hss [.h (.tl (.tp (.ti .i32) K72c5)),.h (.ti .i64)])):DFF En GT (cl [bits_Mul_c] []) Tryd.f49.ntmps Tryd.f49.results.toList (bodyOf Tryd.f49) (.seq .leaf (.seq (.join ⟨[(10,.h .tb)],[9],[],[],[]⟩ (.reg [(1,{split:=true})]) .leaf) (.seq (.reg [(5,{con:=0})]) (.seq (.join ⟨[(26,.h .tb)],[21,22,23,24,25],[],[],[]⟩ (.reg [(2,{split:=true}),(5,{split:=true})]) .leaf) (.seq .leaf (.seq .leaf (.seq (.blk (.loop ⟨[(8,.h (.ti .i64))],(rg 34 13),[(0,.ls (.tp (.ti .i32) K72c5))],[],[]⟩ [(.exit 0,⟨[],([8] ++ rg 34 13),[(0,.ls (.tp (.ti .i32) K72c5))],[],[]⟩)] (.seq (.join ⟨[(37,.h .tb)],[34,35,36],[],[],[]⟩ (.reg [(3,{split:=true})]) .leaf) .leaf))) .leaf))))))) [.h (.tl (.tp (.ti .i32) K72c5)),.h (.ti .i64)] 1 (.tp (.ti .i32) K72c5) a = slices_Repeat_068 a.1 a.2:=by kernel_rfl
noncomputable def slices_Repeat_068_c:PCon En:=⟨49,[.h (.tl (.tp (.ti .i32) K72c5)),.h (.ti .i64)],.h (.tf 1 (.tp (.ti .i32) K72c5)),fun a=>slices_Repeat_068 a.1 a.2,Tryd.call49,fun a v h=>DFF_ok rfl En_mixed rfl En_ok Tryd.func49 rfl rfl (by decide) ((slices_Repeat_068_dq a).trans h)⟩
theorem line_Blank_92f_dq (a:HT (Sh.hss [.h (.ti .i64),.st K92a5])):DFF En GT (cl [pen_May_c,line_blank_c,slices_Repeat_068_c] []) Tryd.f30.ntmps Tryd.f30.results.toList (bodyOf Tryd.f30) (.seq .leaf (.seq (.join ⟨[(15,.h .tb)],(rg 5 10),[],[],[]⟩ (.reg [(2,{split:=true}),(6,{split:=true}),(8,{con:=0}),(10,{split:=true})]) .leaf) (.seq (.reg [(1,{con:=1}),(4,{con:=2})]) .leaf))) [.h (.ti .i64),.st K92a5] 1 (.tp (.ti .i32) K72c5) a = line_Blank_92f a.1 a.2:=by kernel_rfl
noncomputable def line_Blank_92f_c:PCon En:=⟨30,[.h (.ti .i64),.st K92a5],.h (.tf 1 (.tp (.ti .i32) K72c5)),fun a=>line_Blank_92f a.1 a.2,Tryd.call30,fun a v h=>DFF_ok rfl En_mixed rfl En_ok Tryd.func30 rfl rfl (by decide) ((line_Blank_92f_dq a).trans h)⟩
def grid_Scroll_274_ar:List Sh:=[.rww 0 1,.h (.ti .i64),.h (.ti .i64),.h (.ti .i64),.st K92a5]
def grid_Scroll_274_ls:List (Nat × LSh):=[(0,.ls (.tf 1 (.tp (.ti .i32) K72c5))),(1000,.cs []),(1001,.cs [])]
def grid_Scroll_274_ot:Tm:=⟨[(0,.rww 1 1)],[],[(1,.ls (.tf 1 (.tp (.ti .i32) K72c5)))],[],[]⟩
theorem grid_Scroll_274_dq (a:HT (Sh.hss grid_Scroll_274_ar ++ hsL grid_Scroll_274_ls)):DI En GT (cl [grid_May_c,pen_May_c,line_Blank_92f_c] [grid_copied_3fa_c]) Tryd.f86.ntmps Tryd.f86.results.toList (bodyOf Tryd.f86) (.seq .leaf (.seq (.join ⟨[(21,.h .tb)],(rg 14 7),[],[],[]⟩ (.reg [(1,{con:=0}),(3,{split:=true}),(5,{con:=1}),(7,{split:=true})]) .leaf) (.seq (.reg [(1,{io:=some 0})]) (.seq (.join ⟨[(36,.h .tb)],(rg 24 12),[],[],[]⟩ (.reg [(2,{split:=true}),(7,{split:=true}),(12,{split:=true})]) .leaf) (.seq .leaf (.seq .leaf (.join ⟨[(12,.rwf 1003 1)],(rg 51 23),[(1003,.ls (.tf 1 (.tp (.ti .i32) K72c5)))],[],[]⟩ (.join ⟨[(52,.h .tb)],[51],[],[],[]⟩ (.reg [(1,{split:=true})]) .leaf) (.seq (.seq .leaf (.blk (.loop ⟨[(76,.h (.ti .i64))],([13] ++ rg 77 12),[(1003,.ls (.tf 1 (.tp (.ti .i32) K72c5)))],[],[]⟩ [(.exit 0,⟨[],([13] ++ rg 76 13),[(1003,.ls (.tf 1 (.tp (.ti .i32) K72c5)))],[],[]⟩)] (.join ⟨[(77,.h .tb)],[],[],[],[]⟩ (.reg [(0,{split:=true})]) (.seq .leaf (.seq (.blk (.seq .leaf (.reg [(7,{con:=2})]))) .leaf)))))) .leaf)))))))) grid_Scroll_274_ar grid_Scroll_274_ls grid_Scroll_274_ot a = grid_Scroll_274 a.1 a.2.1 a.2.2.1 a.2.2.2.1 a.2.2.2.2:=by kernel_rfl
noncomputable def grid_Scroll_274_c:ICon En:=⟨86,grid_Scroll_274_ar,grid_Scroll_274_ls,grid_Scroll_274_ot,fun a=>grid_Scroll_274 a.1 a.2.1 a.2.2.1 a.2.2.2.1 a.2.2.2.2,Tryd.call86,fun a v h=>DI_ok rfl En_mixed rfl En_ok Tryd.func86 rfl ⟨rfl,rfl,rfl,rfl⟩ ((grid_Scroll_274_dq a).trans h)⟩
def screen_work_scroll_d5f_ar:List Sh:=[.ptr 0 0,.h (.ti .i64),.h (.ti .i64)]
def screen_work_scroll_d5f_ls:List (Nat × LSh):=[(0,.cs [.h (.ti .i64),.h (.ti .i64),.rww 1 1,.rww 2 1,.h (.ti .i64),.h (.ti .i64),.h .tb,.h (.ti .i64),.h (.ti .i64),.h (.ti .i64),.h (.ti .i64),.h (.ti .i64),.h (.ti .i64),.h (.ti .i64),.h (.ti .i64),.h (.ti .i64),.h (.ti .i64),.h (.ti .i64),.h .tb,.h .tb,.h (.ti .i64),.h (.ti .i64),.h (.ti .i64),.h (.ti .i64),.h (.ti .i64),.h .tb,.h .tb,.h (.ti .u64),.h (.ti .u64),.h (.ti .u64),.h (.ti .u64),.rww 3 1]),(1,.ls (.tf 1 (.tp (.ti .i32) K72c5))),(2,.ls (.tf 2 (.tp (.ti .i32) K72c5))),(3,.ls (.ti .i32)),(1000,.cs []),(1001,.cs [])]
def screen_work_scroll_d5f_ot:Tm:=⟨[(0,.tup [])],[],[(4,.ls (.tf 1 (.tp (.ti .i32) K72c5)))],[(0,2,.rww 4 1)],[]⟩
theorem screen_work_scroll_d5f_dq (a:HT (Sh.hss screen_work_scroll_d5f_ar ++ hsL screen_work_scroll_d5f_ls)):DI En GT (cl [] [grid_Scroll_274_c]) Tryd.f69.ntmps Tryd.f69.results.toList (bodyOf Tryd.f69) (.reg [(18,{io:=some 0})]) screen_work_scroll_d5f_ar screen_work_scroll_d5f_ls screen_work_scroll_d5f_ot a = screen_work_scroll_d5f a.1 a.2.1 a.2.2.2.2.2.2.2.1 a.2.2.2.2.2.2.2.2.1 a.2.2.2.2.2.2.2.2.2.1 a.2.2.2.2.2.2.2.2.2.2.2.1 a.2.2.2.2.2.2.2.2.2.2.2.2.2.2.2.2.2.2.2.2.2.2.2.2.2.2.2.2.2.2.2.1:=by kernel_rfl
noncomputable def screen_work_scroll_d5f_c:ICon En:=⟨69,screen_work_scroll_d5f_ar,screen_work_scroll_d5f_ls,screen_work_scroll_d5f_ot,fun a=>screen_work_scroll_d5f a.1 a.2.1 a.2.2.2.2.2.2.2.1 a.2.2.2.2.2.2.2.2.1 a.2.2.2.2.2.2.2.2.2.1 a.2.2.2.2.2.2.2.2.2.2.2.1 a.2.2.2.2.2.2.2.2.2.2.2.2.2.2.2.2.2.2.2.2.2.2.2.2.2.2.2.2.2.2.2.1,Tryd.call69,fun a v h=>DI_ok rfl En_mixed rfl En_ok Tryd.func69 rfl ⟨rfl,rfl,rfl,rfl⟩ ((screen_work_scroll_d5f_dq a).trans h)⟩
def screen_work_feed_4f7_ar:List Sh:=[.ptr 0 0]
def screen_work_feed_4f7_ls:List (Nat × LSh):=[(0,.cs [.h (.ti .i64),.h (.ti .i64),.rww 1 1,.rww 2 1,.h (.ti .i64),.h (.ti .i64),.h .tb,.h (.ti .i64),.h (.ti .i64),.h (.ti .i64),.h (.ti .i64),.h (.ti .i64),.h (.ti .i64),.h (.ti .i64),.h (.ti .i64),.h (.ti .i64),.h (.ti .i64),.h (.ti .i64),.h .tb,.h .tb,.h (.ti .i64),.h (.ti .i64),.h (.ti .i64),.h (.ti .i64),.h (.ti .i64),.h .tb,.h .tb,.h (.ti .u64),.h (.ti .u64),.h (.ti .u64),.h (.ti .u64),.rww 3 1]),(1,.ls (.tf 1 (.tp (.ti .i32) K72c5))),(2,.ls (.tf 2 (.tp (.ti .i32) K72c5))),(3,.ls (.ti .i32)),(1000,.cs []),(1001,.cs [])]
def screen_work_feed_4f7_ot:Tm:=⟨[(0,.tup [])],[],[(4,.ls (.tf 1 (.tp (.ti .i32) K72c5)))],[(0,2,.rww 4 1),(0,4,.h (.ti .i64))],[1]⟩
theorem screen_work_feed_4f7_dq (a:HT (Sh.hss screen_work_feed_4f7_ar ++ hsL screen_work_feed_4f7_ls)):DI En GT (cl [] [screen_work_scroll_d5f_c]) Tryd.f56.ntmps Tryd.f56.results.toList (bodyOf Tryd.f56) (.seq (.join ⟨[(12,.h .tb)],(rg 2 10),[],[],[]⟩ (.reg [(10,{split:=true})]) (.cond (.seq (.reg [(6,{io:=some 0})]) .leaf) .leaf)) .leaf) screen_work_feed_4f7_ar screen_work_feed_4f7_ls screen_work_feed_4f7_ot a = screen_work_feed_4f7 a.1 a.2.2.1 a.2.2.2.2.2.1 a.2.2.2.2.2.2.1 a.2.2.2.2.2.2.2.1 a.2.2.2.2.2.2.2.2.1 a.2.2.2.2.2.2.2.2.2.1 a.2.2.2.2.2.2.2.2.2.2.2.2.2.2.2.2.2.2.2.2.2.2.2.2.2.2.2.2.2.1 a.2.2.2.2.2.2.2.2.2.2.2.2.2.2.2.2.2.2.2.2.2.2.2.2.2.2.2.2.2.2.1 a.2.2.2.2.2.2.2.2.2.2.2.2.2.2.2.2.2.2.2.2.2.2.2.2.2.2.2.2.2.2.2:=by kernel_rfl
noncomputable def screen_work_feed_4f7_c:ICon En:=⟨56,screen_work_feed_4f7_ar,screen_work_feed_4f7_ls,screen_work_feed_4f7_ot,fun a=>screen_work_feed_4f7 a.1 a.2.2.1 a.2.2.2.2.2.1 a.2.2.2.2.2.2.1 a.2.2.2.2.2.2.2.1 a.2.2.2.2.2.2.2.2.1 a.2.2.2.2.2.2.2.2.2.1 a.2.2.2.2.2.2.2.2.2.2.2.2.2.2.2.2.2.2.2.2.2.2.2.2.2.2.2.2.2.1 a.2.2.2.2.2.2.2.2.2.2.2.2.2.2.2.2.2.2.2.2.2.2.2.2.2.2.2.2.2.2.1 a.2.2.2.2.2.2.2.2.2.2.2.2.2.2.2.2.2.2.2.2.2.2.2.2.2.2.2.2.2.2.2,Tryd.call56,fun a v h=>DI_ok rfl En_mixed rfl En_ok Tryd.func56 rfl ⟨rfl,rfl,rfl,rfl⟩ ((screen_work_feed_4f7_dq a).trans h)⟩
theorem line_fine_dq (a:HT (Sh.hss [.h (.tl (.tp (.ti .i32) K72c5)),.st K92a5])):DF En GT (cl [line_May_c,pen_May_c] []) Tryd.f83.ntmps Tryd.f83.results.toList (bodyOf Tryd.f83) (.seq .leaf (.seq (.reg [(1,{con:=0}),(2,{split:=true}),(4,{con:=1})]) .leaf)) [.h (.tl (.tp (.ti .i32) K72c5)),.st K92a5] (.h .tb) a = line_fine a.1 a.2:=by kernel_rfl
noncomputable def line_fine_c:PCon En:=⟨83,[.h (.tl (.tp (.ti .i32) K72c5)),.st K92a5],.h .tb,fun a=>line_fine a.1 a.2,Tryd.call83,fun a v h=>DF_ok rfl En_mixed rfl En_ok Tryd.func83 rfl rfl (by decide) ((line_fine_dq a).trans h)⟩
def line_torn_ed0_ar:List Sh:=[.rww 0 7,.h (.ti .i64)]
def line_torn_ed0_ls:List (Nat × LSh):=[(0,.ls (.tp (.ti .i32) K72c5))]
def line_torn_ed0_ot:Tm:=⟨[(0,.tup [])],[],[(0,.ls (.tp (.ti .i32) K72c5))],[],[]⟩
theorem line_torn_ed0_dq (a:HT (Sh.hss line_torn_ed0_ar ++ hsL line_torn_ed0_ls)):DI En GT (cl [line_blank_c] []) Tryd.f84.ntmps Tryd.f84.results.toList (bodyOf Tryd.f84) (.join ⟨[(19,.h .tb)],(rg 4 15),[],[],[]⟩ (.reg [(2,{split:=true}),(8,{split:=true}),(15,{split:=true})]) (.cond (.reg [(11,{con:=0}),(17,{con:=0})]) .leaf)) line_torn_ed0_ar line_torn_ed0_ls line_torn_ed0_ot a = line_torn_ed0 a.1 a.2:=by kernel_rfl
noncomputable def line_torn_ed0_c:ICon En:=⟨84,line_torn_ed0_ar,line_torn_ed0_ls,line_torn_ed0_ot,fun a=>line_torn_ed0 a.1 a.2,Tryd.call84,fun a v h=>DI_ok rfl En_mixed rfl En_ok Tryd.func84 rfl ⟨rfl,rfl,rfl,rfl⟩ ((line_torn_ed0_dq a).trans h)⟩
theorem line_Insert_426_dq (a:HT (Sh.hss [.h (.tl (.tp (.ti .i32) K72c5)),.h (.ti .i64),.h (.ti .i64),.st K92a5])):DFF En GT (cl [line_fine_c,line_Blank_c] [slices_Clone_0e3_c,line_torn_ed0_c]) Tryd.f57.ntmps Tryd.f57.results.toList (bodyOf Tryd.f57) (.seq .leaf (.seq (.join ⟨[(13,.h .tb)],[10,11,12],[],[],[]⟩ (.reg [(2,{con:=0}),(3,{split:=true})]) .leaf) (.seq (.reg [(1,{io:=some 0})]) (.seq (.join ⟨[(27,.h .tb)],(rg 16 11),[],[],[]⟩ (.reg [(2,{split:=true}),(6,{split:=true}),(11,{split:=true})]) .leaf) (.seq .leaf (.seq (.reg [(2,{io:=some 1})]) (.seq (.reg [(5,{io:=some 1})]) (.seq .leaf (.seq (.reg [(5,{con:=1})]) .leaf))))))))) [.h (.tl (.tp (.ti .i32) K72c5)),.h (.ti .i64),.h (.ti .i64),.st K92a5] 1 (.tp (.ti .i32) K72c5) a = line_Insert_426 a.1 a.2.1 a.2.2.1 a.2.2.2:=by kernel_rfl
noncomputable def line_Insert_426_c:PCon En:=⟨57,[.h (.tl (.tp (.ti .i32) K72c5)),.h (.ti .i64),.h (.ti .i64),.st K92a5],.h (.tf 1 (.tp (.ti .i32) K72c5)),fun a=>line_Insert_426 a.1 a.2.1 a.2.2.1 a.2.2.2,Tryd.call57,fun a v h=>DFF_ok rfl En_mixed rfl En_ok Tryd.func57 rfl rfl (by decide) ((line_Insert_426_dq a).trans h)⟩
theorem line_Put_af7_dq (a:HT (Sh.hss [.h (.tl (.tp (.ti .i32) K72c5)),.h (.ti .i64),.h (.ti .i32),.st K92a5])):DFF En GT (cl [line_fine_c,cols_Of_c] [slices_Clone_0e3_c,line_torn_ed0_c]) Tryd.f58.ntmps Tryd.f58.results.toList (bodyOf Tryd.f58) (.seq .leaf (.seq (.join ⟨[(14,.h .tb)],[11,12,13],[],[],[]⟩ (.reg [(2,{con:=0}),(3,{split:=true})]) .leaf) (.seq (.reg [(1,{con:=1})]) (.seq (.reg [(1,{io:=some 0})]) (.seq (.join ⟨[(32,.h .tb)],(rg 19 13),[],[],[]⟩ (.reg [(2,{split:=true}),(6,{split:=true}),(13,{split:=true})]) .leaf) (.seq (.reg [(2,{io:=some 1})]) (.seq (.reg [(4,{io:=some 1})]) (.seq .leaf (.join ⟨[],(rg 50 8),[(1,.ls (.tp (.ti .i32) K72c5))],[],[]⟩ (.join ⟨[(51,.h .tb)],[50],[],[],[]⟩ (.reg [(1,{split:=true})]) .leaf) .leaf))))))))) [.h (.tl (.tp (.ti .i32) K72c5)),.h (.ti .i64),.h (.ti .i32),.st K92a5] 1 (.tp (.ti .i32) K72c5) a = line_Put_af7 a.1 a.2.1 a.2.2.1 a.2.2.2:=by kernel_rfl
noncomputable def line_Put_af7_c:PCon En:=⟨58,[.h (.tl (.tp (.ti .i32) K72c5)),.h (.ti .i64),.h (.ti .i32),.st K92a5],.h (.tf 1 (.tp (.ti .i32) K72c5)),fun a=>line_Put_af7 a.1 a.2.1 a.2.2.1 a.2.2.2,Tryd.call58,fun a v h=>DFF_ok rfl En_mixed rfl En_ok Tryd.func58 rfl rfl (by decide) ((line_Put_af7_dq a).trans h)⟩
def screen_work_print_ec2_ar:List Sh:=[.ptr 0 0,.h (.ti .i32)]
def screen_work_print_ec2_ls:List (Nat × LSh):=[(0,.cs [.h (.ti .i64),.h (.ti .i64),.rww 1 1,.rww 2 1,.h (.ti .i64),.h (.ti .i64),.h .tb,.h (.ti .i64),.h (.ti .i64),.h (.ti .i64),.h (.ti .i64),.h (.ti .i64),.h (.ti .i64),.h (.ti .i64),.h (.ti .i64),.h (.ti .i64),.h (.ti .i64),.h (.ti .i64),.h .tb,.h .tb,.h (.ti .i64),.h (.ti .i64),.h (.ti .i64),.h (.ti .i64),.h (.ti .i64),.h .tb,.h .tb,.h (.ti .u64),.h (.ti .u64),.h (.ti .u64),.h (.ti .u64),.rww 3 1]),(1,.ls (.tf 1 (.tp (.ti .i32) K72c5))),(2,.ls (.tf 2 (.tp (.ti .i32) K72c5))),(3,.ls (.ti .i32)),(1000,.cs []),(1001,.cs [])]
def screen_work_print_ec2_ot:Tm:=⟨[(0,.tup [])],[],[(4,.ls (.tf 1 (.tp (.ti .i32) K72c5)))],[(0,2,.rww 4 1),(0,4,.h (.ti .i64)),(0,5,.h (.ti .i64)),(0,6,.h .tb)],[1]⟩
theorem screen_work_print_ec2_dq (a:HT (Sh.hss screen_work_print_ec2_ar ++ hsL screen_work_print_ec2_ls)):DI En GT (cl [cols_Of_c,line_Mark_5ae_c,line_Insert_426_c,line_Put_af7_c] [screen_work_feed_4f7_c]) Tryd.f38.ntmps Tryd.f38.results.toList (bodyOf Tryd.f38) (.seq (.reg [(1,{con:=0})]) (.seq .leaf (.seq (.blk (.join ⟨[(22,.h .tb)],(rg 23 11),[],[],[]⟩ (.reg [(2,{split:=true}),(11,{split:=true})]) (.cond .leaf (.join ⟨[(34,.h .tb)],[35,36],[],[],[]⟩ (.reg [(2,{split:=true})]) (.cond (.seq .leaf (.join ⟨[(6,.h (.ti .i64))],(rg 42 8),[],[],[]⟩ (.join ⟨[(47,.h .tb)],[42,43,44,45,46],[],[],[]⟩ (.reg [(5,{split:=true})]) .leaf) (.seq (.reg [(13,{con:=1})]) .leaf))) .leaf))))) (.seq .leaf (.join ⟨[],(rg 72 14 ++ [20,14]),[(4,.ls (.tf 1 (.tp (.ti .i32) K72c5)))],[(0,2,.rww 4 1),(0,4,.h (.ti .i64)),(0,5,.h (.ti .i64))],[1]⟩ (.join ⟨[(79,.h .tb)],(rg 72 7),[],[],[]⟩ (.reg [(5,{split:=true}),(7,{split:=true})]) (.cond (.seq .leaf (.reg [(1,{io:=some 0})])) .leaf)) (.seq .leaf (.join ⟨[],(rg 90 31),[(5,.ls (.tf 1 (.tp (.ti .i32) K72c5)))],[(0,2,.rww 5 1),(0,4,.h (.ti .i64)),(0,5,.h (.ti .i64))],[4]⟩ (.join ⟨[(102,.h .tb)],(rg 90 12),[],[],[]⟩ (.reg [(12,{split:=true})]) (.cond (.join ⟨[(103,.h .tb)],[],[],[],[]⟩ (.reg [(0,{split:=true})]) (.cond (.seq .leaf (.reg [(1,{io:=some 0})])) .leaf)) .leaf)) (.seq .leaf (.join ⟨[(5,.h (.tf 1 (.tp (.ti .i32) K72c5)))],(rg 133 20),[],[],[]⟩ (.join ⟨[(139,.h .tb)],(rg 133 6),[],[],[]⟩ (.reg [(6,{split:=true})]) (.cond (.reg [(12,{con:=2})]) .leaf)) (.seq (.reg [(22,{con:=3})]) (.seq .leaf (.join ⟨[(197,.h .tb)],(rg 187 10),[],[],[]⟩ (.reg [(10,{split:=true})]) .leaf)))))))))))) screen_work_print_ec2_ar screen_work_print_ec2_ls screen_work_print_ec2_ot a = screen_work_print_ec2 a.1 a.2.1 a.2.2.1 a.2.2.2.1 a.2.2.2.2.1 a.2.2.2.2.2.1 a.2.2.2.2.2.2.1 a.2.2.2.2.2.2.2.1 a.2.2.2.2.2.2.2.2.1 a.2.2.2.2.2.2.2.2.2.1 a.2.2.2.2.2.2.2.2.2.2.1 a.2.2.2.2.2.2.2.2.2.2.2.1 a.2.2.2.2.2.2.2.2.2.2.2.2.2.2.2.2.2.2.2.2.2.2.2.2.2.2.2.2.2.2.1 a.2.2.2.2.2.2.2.2.2.2.2.2.2.2.2.2.2.2.2.2.2.2.2.2.2.2.2.2.2.2.2.1 a.2.2.2.2.2.2.2.2.2.2.2.2.2.2.2.2.2.2.2.2.2.2.2.2.2.2.2.2.2.2.2.2:=by kernel_rfl
noncomputable def screen_work_print_ec2_c:ICon En:=⟨38,screen_work_print_ec2_ar,screen_work_print_ec2_ls,screen_work_print_ec2_ot,fun a=>screen_work_print_ec2 a.1 a.2.1 a.2.2.1 a.2.2.2.1 a.2.2.2.2.1 a.2.2.2.2.2.1 a.2.2.2.2.2.2.1 a.2.2.2.2.2.2.2.1 a.2.2.2.2.2.2.2.2.1 a.2.2.2.2.2.2.2.2.2.1 a.2.2.2.2.2.2.2.2.2.2.1 a.2.2.2.2.2.2.2.2.2.2.2.1 a.2.2.2.2.2.2.2.2.2.2.2.2.2.2.2.2.2.2.2.2.2.2.2.2.2.2.2.2.2.2.1 a.2.2.2.2.2.2.2.2.2.2.2.2.2.2.2.2.2.2.2.2.2.2.2.2.2.2.2.2.2.2.2.1 a.2.2.2.2.2.2.2.2.2.2.2.2.2.2.2.2.2.2.2.2.2.2.2.2.2.2.2.2.2.2.2.2,Tryd.call38,fun a v h=>DI_ok rfl En_mixed rfl En_ok Tryd.func38 rfl ⟨rfl,rfl,rfl,rfl⟩ ((screen_work_print_ec2_dq a).trans h)⟩
theorem pen_fine_dq (a:HT (Sh.hss [.st K92a5])):DF En GT (cl [pen_May_c] []) Tryd.f59.ntmps Tryd.f59.results.toList (bodyOf Tryd.f59) (.seq .leaf (.seq (.join ⟨[(5,.h .tb)],[3,4],[],[],[]⟩ (.reg [(1,{con:=0}),(2,{split:=true})]) .leaf) .leaf)) [.st K92a5] (.st K92a5) a = pen_fine a:=by kernel_rfl
noncomputable def pen_fine_c:PCon En:=⟨59,[.st K92a5],.st K92a5,fun a=>pen_fine a,Tryd.call59,fun a v h=>DF_ok rfl En_mixed rfl En_ok Tryd.func59 rfl rfl (by decide) ((pen_fine_dq a).trans h)⟩
theorem pen_plane_dq (a:HT (Sh.hss [.h (.ti .i64)])):DF En GT noC Tryd.f61.ntmps Tryd.f61.results.toList (bodyOf Tryd.f61) (.seq .leaf (.seq (.blk (.join ⟨[(4,.h .tb)],(rg 5 6),[],[],[]⟩ (.reg [(2,{split:=true}),(6,{split:=true})]) (.cond .leaf (.join ⟨[(14,.h .tb)],(rg 15 12),[],[],[]⟩ (.join ⟨[(14,.h .tb)],(rg 15 6),[],[],[]⟩ (.reg [(2,{split:=true}),(6,{split:=true})]) (.cond .leaf (.reg [(2,{split:=true}),(6,{split:=true})]))) .leaf)))) .leaf)) [.h (.ti .i64)] (.tup [.h (.ti .i64),.h .tb]) a = pen_plane a:=by kernel_rfl
noncomputable def pen_plane_c:PCon En:=⟨61,[.h (.ti .i64)],.tup [.h (.ti .i64),.h .tb],fun a=>pen_plane a,Tryd.call61,fun a v h=>DF_ok rfl En_mixed rfl En_ok Tryd.func61 rfl rfl (by decide) ((pen_plane_dq a).trans h)⟩
theorem pen_bitOf_dq (a:HT (Sh.hss [.h (.ti .i64)])):DF En GT noC Tryd.f62.ntmps Tryd.f62.results.toList (bodyOf Tryd.f62) (.seq .leaf (.joinX ⟨[(0,.h (.ti .i64))],(rg 3 16),[],[],[]⟩ (.blk (.join ⟨[(3,.h .tb)],(rg 4 10),[],[],[]⟩ (.reg [(2,{split:=true}),(6,{split:=true}),(10,{split:=true})]) (.cond .leaf (.join ⟨[(14,.h .tb)],[15,16],[],[],[]⟩ (.reg [(2,{split:=true})]) .leaf)))) .leaf)) [.h (.ti .i64)] (.h (.ti .i64)) a = pen_bitOf a:=by kernel_rfl
noncomputable def pen_bitOf_c:PCon En:=⟨62,[.h (.ti .i64)],.h (.ti .i64),fun a=>pen_bitOf a,Tryd.call62,fun a v h=>DF_ok rfl En_mixed rfl En_ok Tryd.func62 rfl rfl (by decide) ((pen_bitOf_dq a).trans h)⟩
theorem pen_colour_1_dq (a:HT (Sh.hss [.h (.tl (.ti .i64))])):DF En GT noC Tryd.f85.ntmps Tryd.f85.results.toList (bodyOf Tryd.f85) (.seq .leaf (.seq (.seq .leaf (.blk (.loop ⟨[(7,.h (.ti .i64))],([4] ++ rg 8 10),[],[],[]⟩ [(.ret,⟨[(2,.k (.bool false))],([4] ++ rg 7 11),[],[],[]⟩),(.exit 0,⟨[],([4] ++ rg 7 11),[],[],[]⟩)] (.join ⟨[(8,.h .tb)],[],[],[],[]⟩ (.reg [(0,{split:=true})]) (.seq .leaf (.seq (.blk (.seq .leaf (.join ⟨[(16,.h .tb)],[11,12,13,14,15],[],[],[]⟩ (.reg [(2,{split:=true}),(5,{split:=true})]) .leaf))) .leaf)))))) .leaf)) [.h (.tl (.ti .i64))] (.h .tb) a = pen_colour_1 a:=by kernel_rfl
noncomputable def pen_colour_1_c:PCon En:=⟨85,[.h (.tl (.ti .i64))],.h .tb,fun a=>pen_colour_1 a,Tryd.call85,fun a v h=>DF_ok rfl En_mixed rfl En_ok Tryd.func85 rfl rfl (by decide) ((pen_colour_1_dq a).trans h)⟩
theorem pen_colour_dq (a:HT (Sh.hss [.h (.tl (.ti .i64))])):DF En GT (cl [pen_colour_1_c] []) Tryd.f63.ntmps Tryd.f63.results.toList (bodyOf Tryd.f63) (.seq .leaf (.seq .leaf (.seq (.blk (.join ⟨[(5,.h .tb)],(rg 6 17),[],[],[]⟩ (.reg [(3,{split:=true}),(9,{split:=true}),(15,{con:=0}),(17,{split:=true})]) (.cond .leaf (.join ⟨[(27,.h .tb)],(rg 28 15),[],[],[]⟩ (.reg [(3,{split:=true}),(9,{split:=true}),(13,{con:=0}),(15,{split:=true})]) .leaf)))) .leaf))) [.h (.tl (.ti .i64))] (.tup [.h (.ti .i64),.h (.ti .i64)]) a = pen_colour a:=by kernel_rfl
noncomputable def pen_colour_c:PCon En:=⟨63,[.h (.tl (.ti .i64))],.tup [.h (.ti .i64),.h (.ti .i64)],fun a=>pen_colour a,Tryd.call63,fun a v h=>DF_ok rfl En_mixed rfl En_ok Tryd.func63 rfl rfl (by decide) ((pen_colour_dq a).trans h)⟩
def pen_Apply_1_345_ar:List Sh:=[.h (.ti .i64),.h (.ti .i64),.ptr 0 0]
def pen_Apply_1_345_ls:List (Nat × LSh):=[(0,.cs [.h (.ti .i64),.h (.ti .i64),.h (.ti .i64)])]
def pen_Apply_1_345_ot:Tm:=⟨[(0,.tup [])],[],[],[(0,1,.h (.ti .i64)),(0,2,.h (.ti .i64))],[]⟩
theorem pen_Apply_1_345_dq (a:HT (Sh.hss pen_Apply_1_345_ar ++ hsL pen_Apply_1_345_ls)):DI En GT noC Tryd.f60.ntmps Tryd.f60.results.toList (bodyOf Tryd.f60) (.join ⟨[(6,.h .tb)],[5],[],[],[]⟩ (.reg [(1,{split:=true})]) .leaf) pen_Apply_1_345_ar pen_Apply_1_345_ls pen_Apply_1_345_ot a = pen_Apply_1_345 a.1 a.2.1 a.2.2.2.1 a.2.2.2.2:=by kernel_rfl
noncomputable def pen_Apply_1_345_c:ICon En:=⟨60,pen_Apply_1_345_ar,pen_Apply_1_345_ls,pen_Apply_1_345_ot,fun a=>pen_Apply_1_345 a.1 a.2.1 a.2.2.2.1 a.2.2.2.2,Tryd.call60,fun a v h=>DI_ok rfl En_mixed rfl En_ok Tryd.func60 rfl ⟨rfl,rfl,rfl,rfl⟩ ((pen_Apply_1_345_dq a).trans h)⟩
theorem pen_Apply_dq (a:HT (Sh.hss [.st K92a5,.h (.tl (.ti .i64))])):DF En GT (cl [pen_fine_c,pen_plane_c,pen_bitOf_c,pen_colour_c] [pen_Apply_1_345_c]) Tryd.f39.ntmps Tryd.f39.results.toList (bodyOf Tryd.f39) (.seq .leaf (.seq (.reg [(1,{con:=0})]) (.seq (.join ⟨[(16,.h .tb)],[14,15],[],[],[]⟩ (.reg [(2,{split:=true})]) .leaf) (.seq .leaf (.seq (.seq .leaf (.blk (.loop ⟨[(6,.h (.ti .i64))],(rg 7 5 ++ rg 19 72 ++ rg 92 41),[],[(0,0,.h (.ti .i64)),(0,1,.h (.ti .i64)),(0,2,.h (.ti .i64))],[]⟩ [(.ret,⟨[],(rg 6 6 ++ rg 19 114),[],[(0,0,.h (.ti .i64)),(0,1,.h (.ti .i64)),(0,2,.h (.ti .i64)),(1,0,.h (.ti .i64)),(1,1,.h (.ti .i64)),(1,2,.h (.ti .i64))],[]⟩),(.exit 0,⟨[],(rg 6 6 ++ rg 19 72 ++ rg 92 41),[],[(0,0,.h (.ti .i64)),(0,1,.h (.ti .i64)),(0,2,.h (.ti .i64))],[]⟩)] (.seq (.join ⟨[(22,.h .tb)],[19,20,21],[],[],[]⟩ (.reg [(3,{split:=true})]) .leaf) (.joinX ⟨[(6,.h (.ti .i64))],(rg 7 5 ++ rg 25 66 ++ rg 92 41),[],[(0,0,.h (.ti .i64)),(0,1,.h (.ti .i64)),(0,2,.h (.ti .i64))],[]⟩ (.blk (.seq .leaf (.seq (.reg [(1,{con:=1})]) (.blk (.join ⟨[(34,.h .tb)],[35,36],[],[],[]⟩ (.reg [(2,{split:=true})]) (.cond .leaf (.join ⟨[(38,.h .tb)],(rg 39 6),[],[],[]⟩ (.reg [(2,{split:=true}),(6,{split:=true})]) (.cond (.reg [(4,{con:=2})]) (.join ⟨[(52,.h .tb)],[53,54],[],[],[]⟩ (.reg [(2,{split:=true})]) (.cond .leaf (.join ⟨[(59,.h .tb)],(rg 60 6),[],[],[]⟩ (.reg [(2,{split:=true}),(6,{split:=true})]) (.cond (.reg [(4,{con:=2})]) (.join ⟨[(73,.h .tb)],(rg 74 7),[],[],[]⟩ (.reg [(1,{split:=true}),(7,{split:=true})]) (.cond (.seq (.reg [(4,{con:=3})]) (.seq (.join ⟨[(90,.h .tb)],[89],[],[],[]⟩ (.reg [(1,{split:=true})]) .leaf) (.seq (.reg [(3,{io:=some 0})]) .leaf))) (.join ⟨[(99,.h .tb)],(rg 100 7),[],[],[]⟩ (.reg [(1,{split:=true}),(7,{split:=true})]) (.cond (.reg [(2,{io:=some 0})]) (.join ⟨[(110,.h .tb)],[111,112,113,114,115],[],[],[]⟩ (.reg [(1,{split:=true}),(5,{split:=true})]) (.cond (.reg [(6,{io:=some 0})]) (.join ⟨[(123,.h .tb)],[124],[],[],[]⟩ (.reg [(1,{split:=true})]) (.cond (.reg [(7,{io:=some 0})]) .leaf)))))))))))))))))))) .leaf))))) .leaf))))) [.st K92a5,.h (.tl (.ti .i64))] (.st K92a5) a = pen_Apply a.1 a.2:=by kernel_rfl
noncomputable def pen_Apply_c:PCon En:=⟨39,[.st K92a5,.h (.tl (.ti .i64))],.st K92a5,fun a=>pen_Apply a.1 a.2,Tryd.call39,fun a v h=>DF_ok rfl En_mixed rfl En_ok Tryd.func39 rfl rfl (by decide) ((pen_Apply_dq a).trans h)⟩
theorem tabs_Clear_dq (a:HT (Sh.hss [.st (.tp (.ti .u64) Kf613),.h (.ti .i64)])):DF En GT (cl [tabs_side_c] []) Tryd.f42.ntmps Tryd.f42.results.toList (bodyOf Tryd.f42) (.seq .leaf (.join ⟨[],(rg 5 11),[],[(0,0,.h (.ti .u64)),(0,1,.h (.ti .u64)),(0,2,.h (.ti .u64)),(0,3,.h (.ti .u64))],[]⟩ (.join ⟨[(6,.h .tb)],[5],[],[],[]⟩ (.reg [(1,{split:=true,con:=0})]) (.cond (.reg [(2,{sel:=true}),(8,{sel:=true})]) .leaf)) .leaf)) [.st (.tp (.ti .u64) Kf613),.h (.ti .i64)] (.st (.tp (.ti .u64) Kf613)) a = tabs_Clear a.1 a.2:=by kernel_rfl
noncomputable def tabs_Clear_c:PCon En:=⟨42,[.st (.tp (.ti .u64) Kf613),.h (.ti .i64)],.st (.tp (.ti .u64) Kf613),fun a=>tabs_Clear a.1 a.2,Tryd.call42,fun a v h=>DF_ok rfl En_mixed rfl En_ok Tryd.func42 rfl rfl (by decide) ((tabs_Clear_dq a).trans h)⟩
def screen_work_page_4f7_ar:List Sh:=[.ptr 0 0]
def screen_work_page_4f7_ls:List (Nat × LSh):=[(0,.cs [.h (.ti .i64),.h (.ti .i64),.rww 1 1,.rww 2 1,.h (.ti .i64),.h (.ti .i64),.h .tb,.h (.ti .i64),.h (.ti .i64),.h (.ti .i64),.h (.ti .i64),.h (.ti .i64),.h (.ti .i64),.h (.ti .i64),.h (.ti .i64),.h (.ti .i64),.h (.ti .i64),.h (.ti .i64),.h .tb,.h .tb,.h (.ti .i64),.h (.ti .i64),.h (.ti .i64),.h (.ti .i64),.h (.ti .i64),.h .tb,.h .tb,.h (.ti .u64),.h (.ti .u64),.h (.ti .u64),.h (.ti .u64),.rww 3 1]),(1,.ls (.tf 1 (.tp (.ti .i32) K72c5))),(2,.ls (.tf 2 (.tp (.ti .i32) K72c5))),(3,.ls (.ti .i32)),(1000,.cs []),(1001,.cs [])]
def screen_work_page_4f7_ot:Tm:=⟨[(0,.h (.ti .i64))],[],[],[],[]⟩
theorem screen_work_page_4f7_dq (a:HT (Sh.hss screen_work_page_4f7_ar ++ hsL screen_work_page_4f7_ls)):DI En GT noC Tryd.f67.ntmps Tryd.f67.results.toList (bodyOf Tryd.f67) (.seq .leaf (.seq (.join ⟨[(9,.h .tb)],(rg 3 6),[],[],[]⟩ (.reg [(6,{split:=true})]) .leaf) .leaf)) screen_work_page_4f7_ar screen_work_page_4f7_ls screen_work_page_4f7_ot a = screen_work_page_4f7 a.2.2.2.2.2.2.2.2.2.2.1:=by kernel_rfl
noncomputable def screen_work_page_4f7_c:ICon En:=⟨67,screen_work_page_4f7_ar,screen_work_page_4f7_ls,screen_work_page_4f7_ot,fun a=>screen_work_page_4f7 a.2.2.2.2.2.2.2.2.2.2.1,Tryd.call67,fun a v h=>DI_ok rfl En_mixed rfl En_ok Tryd.func67 rfl ⟨rfl,rfl,rfl,rfl⟩ ((screen_work_page_4f7_dq a).trans h)⟩
def screen_work_save_4f7_ar:List Sh:=[.ptr 0 0]
def screen_work_save_4f7_ls:List (Nat × LSh):=[(0,.cs [.h (.ti .i64),.h (.ti .i64),.rww 1 1,.rww 2 1,.h (.ti .i64),.h (.ti .i64),.h .tb,.h (.ti .i64),.h (.ti .i64),.h (.ti .i64),.h (.ti .i64),.h (.ti .i64),.h (.ti .i64),.h (.ti .i64),.h (.ti .i64),.h (.ti .i64),.h (.ti .i64),.h (.ti .i64),.h .tb,.h .tb,.h (.ti .i64),.h (.ti .i64),.h (.ti .i64),.h (.ti .i64),.h (.ti .i64),.h .tb,.h .tb,.h (.ti .u64),.h (.ti .u64),.h (.ti .u64),.h (.ti .u64),.rww 3 1]),(1,.ls (.tf 1 (.tp (.ti .i32) K72c5))),(2,.ls (.tf 2 (.tp (.ti .i32) K72c5))),(3,.ls (.ti .i32)),(1000,.cs []),(1001,.cs [])]
def screen_work_save_4f7_ot:Tm:=⟨[(0,.tup [])],[],[],[(0,13,.h (.ti .i64)),(0,14,.h (.ti .i64)),(0,15,.h (.ti .i64)),(0,16,.h (.ti .i64)),(0,17,.h (.ti .i64)),(0,18,.h .tb),(0,19,.h .tb),(0,20,.h (.ti .i64)),(0,21,.h (.ti .i64)),(0,22,.h (.ti .i64)),(0,23,.h (.ti .i64)),(0,24,.h (.ti .i64)),(0,25,.h .tb),(0,26,.h .tb)],[]⟩
theorem screen_work_save_4f7_dq (a:HT (Sh.hss screen_work_save_4f7_ar ++ hsL screen_work_save_4f7_ls)):DI En GT (cl [] [screen_work_page_4f7_c]) Tryd.f43.ntmps Tryd.f43.results.toList (bodyOf Tryd.f43) (.reg [(2,{io:=some 0}),(34,{sel:=true})]) screen_work_save_4f7_ar screen_work_save_4f7_ls screen_work_save_4f7_ot a = screen_work_save_4f7 a.2.2.1 a.2.2.2.1 a.2.2.2.2.1 a.2.2.2.2.2.1 a.2.2.2.2.2.2.1 a.2.2.2.2.2.2.2.1 a.2.2.2.2.2.2.2.2.2.2.1 a.2.2.2.2.2.2.2.2.2.2.2.1 a.2.2.2.2.2.2.2.2.2.2.2.2.1 a.2.2.2.2.2.2.2.2.2.2.2.2.2.1 a.2.2.2.2.2.2.2.2.2.2.2.2.2.2.1 a.2.2.2.2.2.2.2.2.2.2.2.2.2.2.2.1 a.2.2.2.2.2.2.2.2.2.2.2.2.2.2.2.2.1 a.2.2.2.2.2.2.2.2.2.2.2.2.2.2.2.2.2.1 a.2.2.2.2.2.2.2.2.2.2.2.2.2.2.2.2.2.2.1 a.2.2.2.2.2.2.2.2.2.2.2.2.2.2.2.2.2.2.2.1 a.2.2.2.2.2.2.2.2.2.2.2.2.2.2.2.2.2.2.2.2.1 a.2.2.2.2.2.2.2.2.2.2.2.2.2.2.2.2.2.2.2.2.2.1 a.2.2.2.2.2.2.2.2.2.2.2.2.2.2.2.2.2.2.2.2.2.2.1 a.2.2.2.2.2.2.2.2.2.2.2.2.2.2.2.2.2.2.2.2.2.2.2.1 a.2.2.2.2.2.2.2.2.2.2.2.2.2.2.2.2.2.2.2.2.2.2.2.2.1 a.2.2.2.2.2.2.2.2.2.2.2.2.2.2.2.2.2.2.2.2.2.2.2.2.2.2.2.2.2.1 a.2.2.2.2.2.2.2.2.2.2.2.2.2.2.2.2.2.2.2.2.2.2.2.2.2.2.2.2.2.2.1 a.2.2.2.2.2.2.2.2.2.2.2.2.2.2.2.2.2.2.2.2.2.2.2.2.2.2.2.2.2.2.2:=by kernel_rfl
noncomputable def screen_work_save_4f7_c:ICon En:=⟨43,screen_work_save_4f7_ar,screen_work_save_4f7_ls,screen_work_save_4f7_ot,fun a=>screen_work_save_4f7 a.2.2.1 a.2.2.2.1 a.2.2.2.2.1 a.2.2.2.2.2.1 a.2.2.2.2.2.2.1 a.2.2.2.2.2.2.2.1 a.2.2.2.2.2.2.2.2.2.2.1 a.2.2.2.2.2.2.2.2.2.2.2.1 a.2.2.2.2.2.2.2.2.2.2.2.2.1 a.2.2.2.2.2.2.2.2.2.2.2.2.2.1 a.2.2.2.2.2.2.2.2.2.2.2.2.2.2.1 a.2.2.2.2.2.2.2.2.2.2.2.2.2.2.2.1 a.2.2.2.2.2.2.2.2.2.2.2.2.2.2.2.2.1 a.2.2.2.2.2.2.2.2.2.2.2.2.2.2.2.2.2.1 a.2.2.2.2.2.2.2.2.2.2.2.2.2.2.2.2.2.2.1 a.2.2.2.2.2.2.2.2.2.2.2.2.2.2.2.2.2.2.2.1 a.2.2.2.2.2.2.2.2.2.2.2.2.2.2.2.2.2.2.2.2.1 a.2.2.2.2.2.2.2.2.2.2.2.2.2.2.2.2.2.2.2.2.2.1 a.2.2.2.2.2.2.2.2.2.2.2.2.2.2.2.2.2.2.2.2.2.2.1 a.2.2.2.2.2.2.2.2.2.2.2.2.2.2.2.2.2.2.2.2.2.2.2.1 a.2.2.2.2.2.2.2.2.2.2.2.2.2.2.2.2.2.2.2.2.2.2.2.2.1 a.2.2.2.2.2.2.2.2.2.2.2.2.2.2.2.2.2.2.2.2.2.2.2.2.2.2.2.2.2.1 a.2.2.2.2.2.2.2.2.2.2.2.2.2.2.2.2.2.2.2.2.2.2.2.2.2.2.2.2.2.2.1 a.2.2.2.2.2.2.2.2.2.2.2.2.2.2.2.2.2.2.2.2.2.2.2.2.2.2.2.2.2.2.2,Tryd.call43,fun a v h=>DI_ok rfl En_mixed rfl En_ok Tryd.func43 rfl ⟨rfl,rfl,rfl,rfl⟩ ((screen_work_save_4f7_dq a).trans h)⟩
def grid_Blank_d8f_ar:List Sh:=[.h (.ti .i64),.h (.ti .i64),.st K92a5]
def grid_Blank_d8f_ls:List (Nat × LSh):=[(1000,.cs []),(1001,.cs [])]
def grid_Blank_d8f_ot:Tm:=⟨[(0,.rww 0 1)],[],[(0,.ls (.tf 1 (.tp (.ti .i32) K72c5)))],[],[]⟩
theorem grid_Blank_d8f_dq (a:HT (Sh.hss grid_Blank_d8f_ar ++ hsL grid_Blank_d8f_ls)):DI En GT (cl [grid_side_c,pen_May_c,line_Blank_92f_c] []) Tryd.f16.ntmps Tryd.f16.results.toList (bodyOf Tryd.f16) (.seq .leaf (.seq (.join ⟨[(21,.h .tb)],(rg 9 12),[],[],[]⟩ (.reg [(1,{con:=0}),(3,{split:=true}),(5,{con:=0}),(8,{split:=true}),(10,{con:=1}),(12,{split:=true})]) .leaf) (.seq (.reg [(1,{fq:=1})]) (.seq (.seq .leaf (.blk (.loop ⟨[(26,.h (.ti .i64))],([8] ++ rg 27 9),[(1003,.ls (.tf 1 (.tp (.ti .i32) K72c5)))],[],[]⟩ [(.exit 0,⟨[],([8] ++ rg 26 10),[(1003,.ls (.tf 1 (.tp (.ti .i32) K72c5)))],[],[]⟩)] (.join ⟨[(27,.h .tb)],[],[],[],[]⟩ (.reg [(0,{split:=true})]) (.seq .leaf (.seq (.blk (.seq .leaf (.reg [(4,{con:=2})]))) .leaf)))))) .leaf)))) grid_Blank_d8f_ar grid_Blank_d8f_ls grid_Blank_d8f_ot a = grid_Blank_d8f a.1 a.2.1 a.2.2:=by kernel_rfl
noncomputable def grid_Blank_d8f_c:ICon En:=⟨16,grid_Blank_d8f_ar,grid_Blank_d8f_ls,grid_Blank_d8f_ot,fun a=>grid_Blank_d8f a.1 a.2.1 a.2.2,Tryd.call16,fun a v h=>DI_ok rfl En_mixed rfl En_ok Tryd.func16 rfl ⟨rfl,rfl,rfl,rfl⟩ ((grid_Blank_d8f_dq a).trans h)⟩
def screen_work_goTo_d5f_ar:List Sh:=[.ptr 0 0,.h (.ti .i64),.h (.ti .i64)]
def screen_work_goTo_d5f_ls:List (Nat × LSh):=[(0,.cs [.h (.ti .i64),.h (.ti .i64),.rww 1 1,.rww 2 1,.h (.ti .i64),.h (.ti .i64),.h .tb,.h (.ti .i64),.h (.ti .i64),.h (.ti .i64),.h (.ti .i64),.h (.ti .i64),.h (.ti .i64),.h (.ti .i64),.h (.ti .i64),.h (.ti .i64),.h (.ti .i64),.h (.ti .i64),.h .tb,.h .tb,.h (.ti .i64),.h (.ti .i64),.h (.ti .i64),.h (.ti .i64),.h (.ti .i64),.h .tb,.h .tb,.h (.ti .u64),.h (.ti .u64),.h (.ti .u64),.h (.ti .u64),.rww 3 1]),(1,.ls (.tf 1 (.tp (.ti .i32) K72c5))),(2,.ls (.tf 2 (.tp (.ti .i32) K72c5))),(3,.ls (.ti .i32)),(1000,.cs []),(1001,.cs [])]
def screen_work_goTo_d5f_ot:Tm:=⟨[(0,.tup [])],[],[],[(0,4,.h (.ti .i64)),(0,5,.h (.ti .i64)),(0,6,.k (.bool false))],[]⟩
theorem screen_work_goTo_d5f_dq (a:HT (Sh.hss screen_work_goTo_d5f_ar ++ hsL screen_work_goTo_d5f_ls)):DI En GT (cl [screen_between_c] []) Tryd.f68.ntmps Tryd.f68.results.toList (bodyOf Tryd.f68) (.join ⟨[],(rg 6 41),[],[(0,4,.h (.ti .i64))],[]⟩ (.join ⟨[(12,.h .tb)],(rg 6 6),[],[],[]⟩ (.reg [(6,{split:=true})]) (.cond (.reg [(18,{con:=0})]) (.reg [(8,{con:=0})]))) (.seq (.reg [(8,{con:=0})]) .leaf)) screen_work_goTo_d5f_ar screen_work_goTo_d5f_ls screen_work_goTo_d5f_ot a = screen_work_goTo_d5f a.1 a.2.1 a.2.2.1 a.2.2.2.1 a.2.2.2.2.2.2.2.2.2.2.1 a.2.2.2.2.2.2.2.2.2.2.2.1 a.2.2.2.2.2.2.2.2.2.2.2.2.1:=by kernel_rfl
noncomputable def screen_work_goTo_d5f_c:ICon En:=⟨68,screen_work_goTo_d5f_ar,screen_work_goTo_d5f_ls,screen_work_goTo_d5f_ot,fun a=>screen_work_goTo_d5f a.1 a.2.1 a.2.2.1 a.2.2.2.1 a.2.2.2.2.2.2.2.2.2.2.1 a.2.2.2.2.2.2.2.2.2.2.2.1 a.2.2.2.2.2.2.2.2.2.2.2.2.1,Tryd.call68,fun a v h=>DI_ok rfl En_mixed rfl En_ok Tryd.func68 rfl ⟨rfl,rfl,rfl,rfl⟩ ((screen_work_goTo_d5f_dq a).trans h)⟩
def screen_work_restore_4f7_ar:List Sh:=[.ptr 0 0]
def screen_work_restore_4f7_ls:List (Nat × LSh):=[(0,.cs [.h (.ti .i64),.h (.ti .i64),.rww 1 1,.rww 2 1,.h (.ti .i64),.h (.ti .i64),.h .tb,.h (.ti .i64),.h (.ti .i64),.h (.ti .i64),.h (.ti .i64),.h (.ti .i64),.h (.ti .i64),.h (.ti .i64),.h (.ti .i64),.h (.ti .i64),.h (.ti .i64),.h (.ti .i64),.h .tb,.h .tb,.h (.ti .i64),.h (.ti .i64),.h (.ti .i64),.h (.ti .i64),.h (.ti .i64),.h .tb,.h .tb,.h (.ti .u64),.h (.ti .u64),.h (.ti .u64),.h (.ti .u64),.rww 3 1]),(1,.ls (.tf 1 (.tp (.ti .i32) K72c5))),(2,.ls (.tf 2 (.tp (.ti .i32) K72c5))),(3,.ls (.ti .i32)),(1000,.cs []),(1001,.cs [])]
def screen_work_restore_4f7_ot:Tm:=⟨[(0,.tup [])],[],[],[(0,4,.h (.ti .i64)),(0,5,.h (.ti .i64)),(0,6,.h .tb),(0,7,.h (.ti .i64)),(0,8,.h (.ti .i64)),(0,9,.h (.ti .i64)),(0,12,.h (.ti .i64))],[]⟩
theorem screen_work_restore_4f7_dq (a:HT (Sh.hss screen_work_restore_4f7_ar ++ hsL screen_work_restore_4f7_ls)):DI En GT (cl [screen_between_c] [screen_work_page_4f7_c]) Tryd.f45.ntmps Tryd.f45.results.toList (bodyOf Tryd.f45) (.join ⟨[(2,.ptr 4 0)],(rg 3 8),[(4,.cs [.h (.ti .i64),.h (.ti .i64),.h (.ti .i64),.h (.ti .i64),.h (.ti .i64),.h .tb,.h .tb])],[],[]⟩ (.reg [(2,{io:=some 0}),(6,{sel:=true})]) (.seq (.reg [(11,{con:=0}),(20,{con:=0})]) (.seq .leaf (.join ⟨[],(rg 52 11),[],[(0,12,.h (.ti .i64))],[]⟩ (.join ⟨[(53,.h .tb)],[52],[],[],[]⟩ (.reg [(1,{split:=true})]) .leaf) (.reg [(3,{split:=true})]))))) screen_work_restore_4f7_ar screen_work_restore_4f7_ls screen_work_restore_4f7_ot a = screen_work_restore_4f7 a.1 a.2.1 a.2.2.2.2.2.2.2.2.2.2.1 a.2.2.2.2.2.2.2.2.2.2.2.1 a.2.2.2.2.2.2.2.2.2.2.2.2.1 a.2.2.2.2.2.2.2.2.2.2.2.2.2.1 a.2.2.2.2.2.2.2.2.2.2.2.2.2.2.1 a.2.2.2.2.2.2.2.2.2.2.2.2.2.2.2.1 a.2.2.2.2.2.2.2.2.2.2.2.2.2.2.2.2.1 a.2.2.2.2.2.2.2.2.2.2.2.2.2.2.2.2.2.1 a.2.2.2.2.2.2.2.2.2.2.2.2.2.2.2.2.2.2.1 a.2.2.2.2.2.2.2.2.2.2.2.2.2.2.2.2.2.2.2.1 a.2.2.2.2.2.2.2.2.2.2.2.2.2.2.2.2.2.2.2.2.1 a.2.2.2.2.2.2.2.2.2.2.2.2.2.2.2.2.2.2.2.2.2.1 a.2.2.2.2.2.2.2.2.2.2.2.2.2.2.2.2.2.2.2.2.2.2.1 a.2.2.2.2.2.2.2.2.2.2.2.2.2.2.2.2.2.2.2.2.2.2.2.1 a.2.2.2.2.2.2.2.2.2.2.2.2.2.2.2.2.2.2.2.2.2.2.2.2.1 a.2.2.2.2.2.2.2.2.2.2.2.2.2.2.2.2.2.2.2.2.2.2.2.2.2.2.2.2.2.1 a.2.2.2.2.2.2.2.2.2.2.2.2.2.2.2.2.2.2.2.2.2.2.2.2.2.2.2.2.2.2.1 a.2.2.2.2.2.2.2.2.2.2.2.2.2.2.2.2.2.2.2.2.2.2.2.2.2.2.2.2.2.2.2:=by kernel_rfl
noncomputable def screen_work_restore_4f7_c:ICon En:=⟨45,screen_work_restore_4f7_ar,screen_work_restore_4f7_ls,screen_work_restore_4f7_ot,fun a=>screen_work_restore_4f7 a.1 a.2.1 a.2.2.2.2.2.2.2.2.2.2.1 a.2.2.2.2.2.2.2.2.2.2.2.1 a.2.2.2.2.2.2.2.2.2.2.2.2.1 a.2.2.2.2.2.2.2.2.2.2.2.2.2.1 a.2.2.2.2.2.2.2.2.2.2.2.2.2.2.1 a.2.2.2.2.2.2.2.2.2.2.2.2.2.2.2.1 a.2.2.2.2.2.2.2.2.2.2.2.2.2.2.2.2.1 a.2.2.2.2.2.2.2.2.2.2.2.2.2.2.2.2.2.1 a.2.2.2.2.2.2.2.2.2.2.2.2.2.2.2.2.2.2.1 a.2.2.2.2.2.2.2.2.2.2.2.2.2.2.2.2.2.2.2.1 a.2.2.2.2.2.2.2.2.2.2.2.2.2.2.2.2.2.2.2.2.1 a.2.2.2.2.2.2.2.2.2.2.2.2.2.2.2.2.2.2.2.2.2.1 a.2.2.2.2.2.2.2.2.2.2.2.2.2.2.2.2.2.2.2.2.2.2.1 a.2.2.2.2.2.2.2.2.2.2.2.2.2.2.2.2.2.2.2.2.2.2.2.1 a.2.2.2.2.2.2.2.2.2.2.2.2.2.2.2.2.2.2.2.2.2.2.2.2.1 a.2.2.2.2.2.2.2.2.2.2.2.2.2.2.2.2.2.2.2.2.2.2.2.2.2.2.2.2.2.1 a.2.2.2.2.2.2.2.2.2.2.2.2.2.2.2.2.2.2.2.2.2.2.2.2.2.2.2.2.2.2.1 a.2.2.2.2.2.2.2.2.2.2.2.2.2.2.2.2.2.2.2.2.2.2.2.2.2.2.2.2.2.2.2,Tryd.call45,fun a v h=>DI_ok rfl En_mixed rfl En_ok Tryd.func45 rfl ⟨rfl,rfl,rfl,rfl⟩ ((screen_work_restore_4f7_dq a).trans h)⟩
def screen_work_mode_4a3_ar:List Sh:=[.ptr 0 0,.h (.ti .i64),.h .tb]
def screen_work_mode_4a3_ls:List (Nat × LSh):=[(0,.cs [.h (.ti .i64),.h (.ti .i64),.rww 1 1,.rww 2 1,.h (.ti .i64),.h (.ti .i64),.h .tb,.h (.ti .i64),.h (.ti .i64),.h (.ti .i64),.h (.ti .i64),.h (.ti .i64),.h (.ti .i64),.h (.ti .i64),.h (.ti .i64),.h (.ti .i64),.h (.ti .i64),.h (.ti .i64),.h .tb,.h .tb,.h (.ti .i64),.h (.ti .i64),.h (.ti .i64),.h (.ti .i64),.h (.ti .i64),.h .tb,.h .tb,.h (.ti .u64),.h (.ti .u64),.h (.ti .u64),.h (.ti .u64),.rww 3 1]),(1,.ls (.tf 1 (.tp (.ti .i32) K72c5))),(2,.ls (.tf 2 (.tp (.ti .i32) K72c5))),(3,.ls (.ti .i32)),(1000,.cs [])]
def screen_work_mode_4a3_ot:Tm:=⟨[(0,.tup [])],[],[(4,.ls (.tf 1 (.tp (.ti .i32) K72c5))),(5,.ls (.tf 2 (.tp (.ti .i32) K72c5)))],[(0,2,.rww 4 1),(0,3,.rww 5 1),(0,4,.h (.ti .i64)),(0,5,.h (.ti .i64)),(0,6,.h .tb),(0,7,.h (.ti .i64)),(0,8,.h (.ti .i64)),(0,9,.h (.ti .i64)),(0,12,.h (.ti .i64)),(0,13,.h (.ti .i64)),(0,14,.h (.ti .i64)),(0,15,.h (.ti .i64)),(0,16,.h (.ti .i64)),(0,17,.h (.ti .i64)),(0,18,.h .tb),(0,19,.h .tb),(0,20,.h (.ti .i64)),(0,21,.h (.ti .i64)),(0,22,.h (.ti .i64)),(0,23,.h (.ti .i64)),(0,24,.h (.ti .i64)),(0,25,.h .tb),(0,26,.h .tb)],[1,2]⟩
theorem screen_work_mode_4a3_dq (a:HT (Sh.hss screen_work_mode_4a3_ar ++ hsL screen_work_mode_4a3_ls)):DI En GT (cl [] [screen_work_save_4f7_c,grid_Blank_d8f_c,screen_work_goTo_d5f_c,screen_work_restore_4f7_c]) Tryd.f44.ntmps Tryd.f44.results.toList (bodyOf Tryd.f44) (.seq (.join ⟨[(19,.h .tb)],(rg 7 12),[],[],[]⟩ (.reg [(2,{split:=true}),(6,{split:=true}),(12,{split:=true})]) .leaf) (.seq .leaf (.join ⟨[],(rg 28 48),[(4,.ls (.tf 1 (.tp (.ti .i32) K72c5))),(5,.ls (.tf 2 (.tp (.ti .i32) K72c5)))],[(0,2,.rww 4 1),(0,3,.rww 5 1),(0,13,.h (.ti .i64)),(0,14,.h (.ti .i64)),(0,15,.h (.ti .i64)),(0,16,.h (.ti .i64)),(0,17,.h (.ti .i64)),(0,18,.h .tb),(0,19,.h .tb),(0,20,.h (.ti .i64)),(0,21,.h (.ti .i64)),(0,22,.h (.ti .i64)),(0,23,.h (.ti .i64)),(0,24,.h (.ti .i64)),(0,25,.h .tb),(0,26,.h .tb)],[2,1]⟩ (.join ⟨[(34,.h .tb)],(rg 28 6),[],[],[]⟩ (.reg [(2,{split:=true}),(6,{split:=true})]) (.cond (.join ⟨[(35,.h .tb)],[],[],[],[]⟩ (.reg [(0,{split:=true})]) (.cond (.seq (.reg [(1,{io:=some 0})]) (.reg [(18,{io:=some 1}),(9999,{sw:=true})])) (.reg [(9999,{sw:=true})]))) .leaf)) (.seq .leaf (.join ⟨[],(rg 86 11),[],[(0,12,.h (.ti .i64))],[]⟩ (.join ⟨[(86,.h .tb)],[],[],[],[]⟩ (.reg [(0,{split:=true})]) .leaf) (.blk (.join ⟨[(97,.h .tb)],[98,99],[],[],[]⟩ (.reg [(2,{split:=true})]) (.cond (.reg [(1,{io:=some 2})]) (.join ⟨[(102,.h .tb)],[103,104],[],[],[]⟩ (.reg [(2,{split:=true})]) (.cond (.seq .leaf (.join ⟨[(113,.h .tb)],[109,110,111,112],[],[],[]⟩ (.reg [(1,{split:=true}),(4,{split:=true})]) (.cond (.reg [(1,{io:=some 3})]) .leaf))) .leaf)))))))))) screen_work_mode_4a3_ar screen_work_mode_4a3_ls screen_work_mode_4a3_ot a [1001] = screen_work_mode_4a3 a.1 a.2.1 a.2.2.1 a.2.2.2.1 a.2.2.2.2.1 a.2.2.2.2.2.1 a.2.2.2.2.2.2.1 a.2.2.2.2.2.2.2.1 a.2.2.2.2.2.2.2.2.1 a.2.2.2.2.2.2.2.2.2.1 a.2.2.2.2.2.2.2.2.2.2.1 a.2.2.2.2.2.2.2.2.2.2.2.1 a.2.2.2.2.2.2.2.2.2.2.2.2.1 a.2.2.2.2.2.2.2.2.2.2.2.2.2.1 a.2.2.2.2.2.2.2.2.2.2.2.2.2.2.1 a.2.2.2.2.2.2.2.2.2.2.2.2.2.2.2.1 a.2.2.2.2.2.2.2.2.2.2.2.2.2.2.2.2.1 a.2.2.2.2.2.2.2.2.2.2.2.2.2.2.2.2.2.1 a.2.2.2.2.2.2.2.2.2.2.2.2.2.2.2.2.2.2.1 a.2.2.2.2.2.2.2.2.2.2.2.2.2.2.2.2.2.2.2.1 a.2.2.2.2.2.2.2.2.2.2.2.2.2.2.2.2.2.2.2.2.1 a.2.2.2.2.2.2.2.2.2.2.2.2.2.2.2.2.2.2.2.2.2.1 a.2.2.2.2.2.2.2.2.2.2.2.2.2.2.2.2.2.2.2.2.2.2.1 a.2.2.2.2.2.2.2.2.2.2.2.2.2.2.2.2.2.2.2.2.2.2.2.1 a.2.2.2.2.2.2.2.2.2.2.2.2.2.2.2.2.2.2.2.2.2.2.2.2.1 a.2.2.2.2.2.2.2.2.2.2.2.2.2.2.2.2.2.2.2.2.2.2.2.2.2.1 a.2.2.2.2.2.2.2.2.2.2.2.2.2.2.2.2.2.2.2.2.2.2.2.2.2.2.1 a.2.2.2.2.2.2.2.2.2.2.2.2.2.2.2.2.2.2.2.2.2.2.2.2.2.2.2.2.2.2.2.1 a.2.2.2.2.2.2.2.2.2.2.2.2.2.2.2.2.2.2.2.2.2.2.2.2.2.2.2.2.2.2.2.2.1 a.2.2.2.2.2.2.2.2.2.2.2.2.2.2.2.2.2.2.2.2.2.2.2.2.2.2.2.2.2.2.2.2.2:=by kernel_rfl
noncomputable def screen_work_mode_4a3_c:ICon En:=⟨44,screen_work_mode_4a3_ar,screen_work_mode_4a3_ls,screen_work_mode_4a3_ot,fun a=>screen_work_mode_4a3 a.1 a.2.1 a.2.2.1 a.2.2.2.1 a.2.2.2.2.1 a.2.2.2.2.2.1 a.2.2.2.2.2.2.1 a.2.2.2.2.2.2.2.1 a.2.2.2.2.2.2.2.2.1 a.2.2.2.2.2.2.2.2.2.1 a.2.2.2.2.2.2.2.2.2.2.1 a.2.2.2.2.2.2.2.2.2.2.2.1 a.2.2.2.2.2.2.2.2.2.2.2.2.1 a.2.2.2.2.2.2.2.2.2.2.2.2.2.1 a.2.2.2.2.2.2.2.2.2.2.2.2.2.2.1 a.2.2.2.2.2.2.2.2.2.2.2.2.2.2.2.1 a.2.2.2.2.2.2.2.2.2.2.2.2.2.2.2.2.1 a.2.2.2.2.2.2.2.2.2.2.2.2.2.2.2.2.2.1 a.2.2.2.2.2.2.2.2.2.2.2.2.2.2.2.2.2.2.1 a.2.2.2.2.2.2.2.2.2.2.2.2.2.2.2.2.2.2.2.1 a.2.2.2.2.2.2.2.2.2.2.2.2.2.2.2.2.2.2.2.2.1 a.2.2.2.2.2.2.2.2.2.2.2.2.2.2.2.2.2.2.2.2.2.1 a.2.2.2.2.2.2.2.2.2.2.2.2.2.2.2.2.2.2.2.2.2.2.1 a.2.2.2.2.2.2.2.2.2.2.2.2.2.2.2.2.2.2.2.2.2.2.2.1 a.2.2.2.2.2.2.2.2.2.2.2.2.2.2.2.2.2.2.2.2.2.2.2.2.1 a.2.2.2.2.2.2.2.2.2.2.2.2.2.2.2.2.2.2.2.2.2.2.2.2.2.1 a.2.2.2.2.2.2.2.2.2.2.2.2.2.2.2.2.2.2.2.2.2.2.2.2.2.2.1 a.2.2.2.2.2.2.2.2.2.2.2.2.2.2.2.2.2.2.2.2.2.2.2.2.2.2.2.2.2.2.2.1 a.2.2.2.2.2.2.2.2.2.2.2.2.2.2.2.2.2.2.2.2.2.2.2.2.2.2.2.2.2.2.2.2.1 a.2.2.2.2.2.2.2.2.2.2.2.2.2.2.2.2.2.2.2.2.2.2.2.2.2.2.2.2.2.2.2.2.2,Tryd.call44,fun a v h=>DI_ok rfl En_mixed rfl En_ok Tryd.func44 rfl ⟨rfl,rfl,rfl,rfl⟩ ((screen_work_mode_4a3_dq a).trans h)⟩
def screen_New_aae_ar:List Sh:=[.h (.ti .i64),.h (.ti .i64)]
def screen_New_aae_ls:List (Nat × LSh):=[(1000,.cs []),(1001,.cs [])]
def screen_New_aae_ot:Tm:=⟨[(0,.tup [.agg [.h (.ti .i64),.h (.ti .i64),.rww 0 1,.k .nils,.k (.int .i64 0),.k (.int .i64 0),.k (.bool false),.k (.int .i64 0),.k (.int .i64 0),.k (.int .i64 0),.k (.int .i64 0),.h (.ti .i64),.h (.ti .i64),.k (.int .i64 0),.k (.int .i64 0),.k (.int .i64 0),.k (.int .i64 0),.k (.int .i64 0),.k (.bool false),.k (.bool false),.k (.int .i64 0),.k (.int .i64 0),.k (.int .i64 0),.k (.int .i64 0),.k (.int .i64 0),.k (.bool false),.k (.bool false),.h (.ti .u64),.h (.ti .u64),.h (.ti .u64),.h (.ti .u64),.k .nils],.h (.ti .i64)])],[],[(0,.ls (.tf 1 (.tp (.ti .i32) K72c5)))],[],[]⟩
theorem screen_New_aae_dq (a:HT (Sh.hss screen_New_aae_ar ++ hsL screen_New_aae_ls)):DI En GT (cl [tabs_Usual_c] [grid_Blank_d8f_c]) Tryd.f9.ntmps Tryd.f9.results.toList (bodyOf Tryd.f9) (.seq .leaf (.seq (.reg [(3,{io:=some 0})]) (.seq (.join ⟨[(13,.h .tb)],[11,12],[],[],[]⟩ (.reg [(2,{split:=true})]) .leaf) (.seq (.reg [(6,{con:=0})]) .leaf)))) screen_New_aae_ar screen_New_aae_ls screen_New_aae_ot a = screen_New_aae a.1 a.2:=by kernel_rfl
noncomputable def screen_New_aae_c:ICon En:=⟨9,screen_New_aae_ar,screen_New_aae_ls,screen_New_aae_ot,fun a=>screen_New_aae a.1 a.2,Tryd.call9,fun a v h=>DI_ok rfl En_mixed rfl En_ok Tryd.func9 rfl ⟨rfl,rfl,rfl,rfl⟩ ((screen_New_aae_dq a).trans h)⟩
def screen_work_step_d5f_ar:List Sh:=[.ptr 0 0,.h (.ti .i64),.h (.ti .i64)]
def screen_work_step_d5f_ls:List (Nat × LSh):=[(0,.cs [.h (.ti .i64),.h (.ti .i64),.rww 1 1,.rww 2 1,.h (.ti .i64),.h (.ti .i64),.h .tb,.h (.ti .i64),.h (.ti .i64),.h (.ti .i64),.h (.ti .i64),.h (.ti .i64),.h (.ti .i64),.h (.ti .i64),.h (.ti .i64),.h (.ti .i64),.h (.ti .i64),.h (.ti .i64),.h .tb,.h .tb,.h (.ti .i64),.h (.ti .i64),.h (.ti .i64),.h (.ti .i64),.h (.ti .i64),.h .tb,.h .tb,.h (.ti .u64),.h (.ti .u64),.h (.ti .u64),.h (.ti .u64),.rww 3 1]),(1,.ls (.tf 1 (.tp (.ti .i32) K72c5))),(2,.ls (.tf 2 (.tp (.ti .i32) K72c5))),(3,.ls (.ti .i32)),(1000,.cs []),(1001,.cs [])]
def screen_work_step_d5f_ot:Tm:=⟨[(0,.tup [])],[],[],[(0,4,.h (.ti .i64)),(0,5,.h (.ti .i64))],[]⟩
theorem screen_work_step_d5f_dq (a:HT (Sh.hss screen_work_step_d5f_ar ++ hsL screen_work_step_d5f_ls)):DI En GT (cl [screen_between_c] []) Tryd.f70.ntmps Tryd.f70.results.toList (bodyOf Tryd.f70) (.seq .leaf (.join ⟨[(6,.h (.ti .i64))],(rg 14 16),[],[],[]⟩ (.join ⟨[(24,.h .tb)],(rg 14 10),[],[],[]⟩ (.reg [(10,{split:=true})]) .leaf) (.join ⟨[(7,.h (.ti .i64))],(rg 30 16),[],[],[]⟩ (.join ⟨[(40,.h .tb)],(rg 30 10),[],[],[]⟩ (.reg [(10,{split:=true})]) .leaf) (.join ⟨[],(rg 46 32),[],[(0,4,.h (.ti .i64))],[]⟩ (.blk (.join ⟨[(46,.h .tb)],[47,48],[],[],[]⟩ (.reg [(2,{split:=true})]) (.cond .leaf (.join ⟨[(62,.h .tb)],[63,64],[],[],[]⟩ (.reg [(2,{split:=true})]) .leaf)))) (.reg [(14,{con:=0})]))))) screen_work_step_d5f_ar screen_work_step_d5f_ls screen_work_step_d5f_ot a = screen_work_step_d5f a.1 a.2.1 a.2.2.1 a.2.2.2.1 a.2.2.2.2.1 a.2.2.2.2.2.1 a.2.2.2.2.2.2.2.2.2.2.1 a.2.2.2.2.2.2.2.2.2.2.2.1:=by kernel_rfl
noncomputable def screen_work_step_d5f_c:ICon En:=⟨70,screen_work_step_d5f_ar,screen_work_step_d5f_ls,screen_work_step_d5f_ot,fun a=>screen_work_step_d5f a.1 a.2.1 a.2.2.1 a.2.2.2.1 a.2.2.2.2.1 a.2.2.2.2.2.1 a.2.2.2.2.2.2.2.2.2.2.1 a.2.2.2.2.2.2.2.2.2.2.2.1,Tryd.call70,fun a v h=>DI_ok rfl En_mixed rfl En_ok Tryd.func70 rfl ⟨rfl,rfl,rfl,rfl⟩ ((screen_work_step_d5f_dq a).trans h)⟩
theorem bits_TrailingZeros64_dq (a:HT (Sh.hss [.h (.ti .u64)])):DF En GT noC Tryd.f96.ntmps Tryd.f96.results.toList (bodyOf Tryd.f96) (.seq .leaf (.seq (.join ⟨[(4,.h .tb)],[3],[],[],[]⟩ (.reg [(1,{split:=true})]) .leaf) .leaf)) [.h (.ti .u64)] (.h (.ti .i64)) a = bits_TrailingZeros64 a:=by kernel_rfl
noncomputable def bits_TrailingZeros64_c:PCon En:=⟨96,[.h (.ti .u64)],.h (.ti .i64),fun a=>bits_TrailingZeros64 a,Tryd.call96,fun a v h=>DF_ok rfl En_mixed rfl En_ok Tryd.func96 rfl rfl (by decide) ((bits_TrailingZeros64_dq a).trans h)⟩
theorem En_plain:∀ g cells,lget En.G g = some cells → cells.all plX = true:=by
  intro g cells h
  simp only [En,gtPV,GT,List.map_cons,List.map_nil,lget] at h
  split at h
  · simp at h;subst h;kernel_rfl
  · split at h
    · simp at h;subst h;kernel_rfl
    · simp at h
abbrev tc4 (a:Int × Kf613.T):List PV:=[.int .u64 a.1,.int .u64 a.2.1,.int .u64 a.2.2.1,.int .u64 a.2.2.2]
noncomputable def tI_B:Code:=bodyOf Tryd.f95
noncomputable def tI_r0:Code:=cFst tI_B
noncomputable def tI_b:Code:=cIn (cIn (cSnd tI_B))
noncomputable def tI_r1:Code:=cFst tI_b
noncomputable def tI_b1:Code:=cIn (cFst (cSnd (cSnd tI_b)))
noncomputable def tI_r7:Code:=cSnd (cSnd (cSnd tI_b))
noncomputable def tI_r2:Code:=cFst tI_b1
noncomputable def tI_b2:Code:=cIn (cIn (cSnd tI_b1))
noncomputable def tI_r3:Code:=cFst (cFst tI_b2)
noncomputable def tI_b3:Code:=cIn (cFst (cSnd tI_b2))
noncomputable def tI_r4:Code:=cSnd (cSnd tI_b2)
noncomputable def tI_r5:Code:=cFst tI_b3
noncomputable def tI_r6:Code:=cFst (cSnd tI_b3)
noncomputable def tI_o:Oper:=opAt tI_r6 5
noncomputable def tI_o3:Oper:=opAt tI_r5 3
theorem tI_hc:bodyOf Tryd.f95 = .seq tI_r0 (.block 0 (.loop (.seq tI_r1 (.seq (.cond (.tmp 8) .skip (.exit 0)) (.seq (.block 1 (.seq tI_r2 (.block 2 (.loop (.seq (.seq tI_r3 (.cond (.tmp 12) .skip (.exit 2))) (.seq (.block 3 (.seq tI_r5 (.seq (.region 6 (opsOf tI_r6) false) (.cond (.tmp 29) .ret .skip)))) tI_r4)))))) tI_r7))))) :=by kernel_rfl
theorem tI_hops:(opsOf tI_r6).toList = (opsOf tI_r6).toList.take 3 ++ (((opsOf tI_r6).toList.drop 3).take 2 ++ (⟨some 27,.call ⟨.value (.tmp 25),#[.tmp 26],tysOf tI_o⟩,tI_o.type,tI_o.pos,tI_o.after,some (2,false)⟩ :: (opsOf tI_r6).toList.drop 6)):=by kernel_rfl
theorem tI_h5:(opsOf tI_r5).toList.drop 3 = ⟨some 20,.call ⟨.value (.func 96),#[.tmp 19],tysOf tI_o3⟩,tI_o3.type,tI_o3.pos,tI_o3.after,none⟩ :: (opsOf tI_r5).toList.drop 4:=by kernel_rfl
section
variable (a:Int × Kf613.T) (l:Nat) (i w x:Int)
theorem tI_q0:xrunK En.P En.G Tryd.f95.ntmps (opsOf tI_r0) [0,6,7] [(0,.raw l),(1,.rop (tc4 a) 0)] [] = some (AO l (tc4 a) 0,[]):=by kernel_rfl
theorem tI_q1:xrunK En.P En.G Tryd.f95.ntmps (opsOf tI_r1) [8,0,6,7] (AO l (tc4 a) i) [] = some ((8,.bool (decide (i < 4))) :: AO l (tc4 a) i,[]):=by kernel_rfl
theorem tI_q20:xrunK En.P En.G Tryd.f95.ntmps (opsOf tI_r2) [4,3,0,6,7] (AO l (tc4 a) ((0:Nat):Int)) [] = some (AI l (tc4 a) ((0:Nat):Int) a.1,[]):=by kernel_rfl
theorem tI_q21:xrunK En.P En.G Tryd.f95.ntmps (opsOf tI_r2) [4,3,0,6,7] (AO l (tc4 a) ((1:Nat):Int)) [] = some (AI l (tc4 a) ((1:Nat):Int) a.2.1,[]):=by kernel_rfl
theorem tI_q22:xrunK En.P En.G Tryd.f95.ntmps (opsOf tI_r2) [4,3,0,6,7] (AO l (tc4 a) ((2:Nat):Int)) [] = some (AI l (tc4 a) ((2:Nat):Int) a.2.2.1,[]):=by kernel_rfl
theorem tI_q23:xrunK En.P En.G Tryd.f95.ntmps (opsOf tI_r2) [4,3,0,6,7] (AO l (tc4 a) ((3:Nat):Int)) [] = some (AI l (tc4 a) ((3:Nat):Int) a.2.2.2,[]):=by kernel_rfl
theorem tI_q3:xrunK En.P En.G Tryd.f95.ntmps (opsOf tI_r3) [12,4,3,0,6,7] (AI l (tc4 a) i w) [] = some ((12,.bool (w != 0)) :: AI l (tc4 a) i w,[]):=by kernel_rfl
theorem tI_q5:(xrun En.P En.G Tryd.f95.ntmps (opsOf tI_r5) 3 (opsOf tI_r5).toList (AI l (tc4 a) i w) []).map (fun s=>(keepS [19,18,4,3,0,6,7] s.1,s.2)) = some ((19,.int .u64 w) :: (18,.int .i64 (IntKind.wrap .i64 (64 * i))) :: AI l (tc4 a) i w,[]):=by kernel_rfl
theorem tI_q6:(xrun En.P En.G Tryd.f95.ntmps (opsOf tI_r5) ((opsOf tI_r5).toList.drop 4).length ((opsOf tI_r5).toList.drop 4) ((20,.int .i64 x) :: (19,.int .u64 w) :: (18,.int .i64 (IntKind.wrap .i64 (64 * i))) :: AI l (tc4 a) i w) []).map (fun s=>(keepS [5,4,3,0,6,7] s.1,s.2)) = some (A5 l (tc4 a) i w (tabAt i x),[]):=by kernel_rfl
theorem tI_k1:(xrun En.P En.G Tryd.f95.ntmps (opsOf tI_r6) ((opsOf tI_r6).toList.take 3).length ((opsOf tI_r6).toList.take 3) (A5 l (tc4 a) i w x) []).map (fun s=>(keepS [24,5,4,3,0,6,7] s.1,s.2)) = some ((24,.bool (decide (x ≥ 200))) :: A5 l (tc4 a) i w x,[]):=by kernel_rfl
theorem tI_k2:(xrun En.P En.G Tryd.f95.ntmps (opsOf tI_r6) (((opsOf tI_r6).toList.drop 3).take 2 ++ (⟨some 27,.call ⟨.value (.tmp 25),#[.tmp 26],tysOf tI_o⟩,tI_o.type,tI_o.pos,tI_o.after,some (2,false)⟩ :: (opsOf tI_r6).toList.drop 6)).length (((opsOf tI_r6).toList.drop 3).take 2 ++ (⟨some 27,.call ⟨.value (.tmp 25),#[.tmp 26],tysOf tI_o⟩,tI_o.type,tI_o.pos,tI_o.after,some (2,false)⟩ :: (opsOf tI_r6).toList.drop 6)) ((24,.bool true) :: A5 l (tc4 a) i w x) []).map (fun s=>(keepS [29,5,4,3,0,6,7] s.1,s.2)) = some ((29,.bool true) :: A5 l (tc4 a) i w x,[]):=by kernel_rfl
theorem tI_k3:(xrun En.P En.G Tryd.f95.ntmps (opsOf tI_r6) (((opsOf tI_r6).toList.drop 3).take 2).length (((opsOf tI_r6).toList.drop 3).take 2) ((24,.bool false) :: A5 l (tc4 a) i w x) []).map (fun s=>(keepS [25,26,24,5,4,3,0,6,7] s.1,s.2)) = some ((25,.raw l) :: (26,.int .i64 x) :: (24,.bool false) :: A5 l (tc4 a) i w x,[]):=by kernel_rfl
theorem tI_k4 (b:Bool):(xrun En.P En.G Tryd.f95.ntmps (opsOf tI_r6) ((opsOf tI_r6).toList.drop 6).length ((opsOf tI_r6).toList.drop 6) ((27,.bool b) :: (25,.raw l) :: (26,.int .i64 x) :: (24,.bool false) :: A5 l (tc4 a) i w x) []).map (fun s=>(keepS [29,5,4,3,0,6,7] s.1,s.2)) = some ((29,.bool (!b)) :: A5 l (tc4 a) i w x,[]):=by kernel_rfl
theorem tI_q4:xrunK En.P En.G Tryd.f95.ntmps (opsOf tI_r4) [4,3,0,6,7] (A5 l (tc4 a) i w x) [] = some (AI l (tc4 a) i (tabNx w),[]):=by kernel_rfl
theorem tI_q7:xrunK En.P En.G Tryd.f95.ntmps (opsOf tI_r7) [0,6,7] (AO l (tc4 a) i) [] = some (AO l (tc4 a) (IntKind.wrap .i64 (i + 1)),[]):=by kernel_rfl
theorem tI_w:wants (opsOf tI_r6) ((25,.raw l) :: (26,.int .i64 x) :: (24,.bool false) :: A5 l (tc4 a) i w x) ⟨some 27,.call ⟨.value (.tmp 25),#[.tmp 26],tysOf tI_o⟩,tI_o.type,tI_o.pos,tI_o.after,some (2,false)⟩ = some true:=by kernel_rfl
end
theorem tI_tz (w z:Int) (h:bits_TrailingZeros64 w = some z):Pure En 96 [.int .u64 w] (.int .i64 z):=bits_TrailingZeros64_c.ok w z h
theorem tI_iter (a:Int × Kf613.T) {full:List Int} (h:tabStops a = some full):IterC En 95 [.rop (tc4 a) 0] full:=
  iter_ok rfl En_plain Tryd.func95 rfl rfl (by decide) rfl (ws:=[a.1,a.2.1,a.2.2.1,a.2.2.2]) rfl tI_hc tI_hops (tI_w a)
    (fun l=>pcx _ _ _ rfl (tI_q0 a l)) (fun l i=>pcx _ _ _ rfl (tI_q1 a l i))
    (fun l i w h=>by
      match i,h with
      | 0,h=>simp at h;subst h;exact pcx _ _ _ rfl (tI_q20 a l)
      | 1,h=>simp at h;subst h;exact pcx _ _ _ rfl (tI_q21 a l)
      | 2,h=>simp at h;subst h;exact pcx _ _ _ rfl (tI_q22 a l)
      | 3,h=>simp at h;subst h;exact pcx _ _ _ rfl (tI_q23 a l)
      | i + 4,h=>simp at h)
    (fun l i w=>pcx _ _ _ rfl (tI_q3 a l i w))
    (fun l i w z h=>pcut (c:=tI_r5) rfl 3 _ _ _ (tI_q5 a l i w) (by
      rw [tI_h5]
      exact pcall En_ok _ _ _ rfl rfl Tryd.call96 (tI_tz w z h) rfl rfl (tI_q6 a l i w z) ⟨rfl,rfl,rfl⟩))
    (fun l i w x=>pcl _ _ _ (tI_k1 a l i w x)) (fun l i w x=>pcl _ _ _ (tI_k2 a l i w x)) (fun l i w x=>pcl _ _ _ (tI_k3 a l i w x)) (fun l i w x b=>pcl _ _ _ (tI_k4 a l i w x b))
    (fun l i w x=>pcx _ _ _ rfl (tI_q4 a l i w x)) (fun l i=>pcx _ _ _ rfl (tI_q7 a l i)) h
noncomputable def tA_r0:Code:=cFst (bodyOf Tryd.f87)
noncomputable def tA_r1:Code:=cFst (cSnd (bodyOf Tryd.f87))
theorem tA_hc:bodyOf Tryd.f87 = .seq tA_r0 (.seq tA_r1 .ret):=by kernel_rfl
theorem tA_hs:(opsOf tA_r0).toList = opAt tA_r0 0 :: (opsOf tA_r0).toList.drop 1:=by kernel_rfl
theorem tA_all (a:Int × Kf613.T) (lab:Nat):ACalls En 87 [.agg (tc4 a)] [] fun r L'=>r = .fn 95 [.ptr lab 0] ∧ L' = [(lab,some (tc4 a))]:=
  tabsAll_ok rfl Tryd.func87 rfl (by decide) lab tA_hc rfl rfl tA_hs (by kernel_rfl) (by kernel_rfl) (by kernel_rfl) (by kernel_rfl) (by kernel_rfl) (by kernel_rfl)
noncomputable def tN_B:Code:=bodyOf Tryd.f71
noncomputable def tN_r0:Code:=cFst tN_B
noncomputable def tN_r1:Code:=cFst (cSnd tN_B)
noncomputable def tN_m:Code:=cFst (cSnd (cSnd tN_B))
noncomputable def tN_r2:Code:=cFst tN_m
noncomputable def tN_rg:Code:=cIn (cSnd tN_m)
noncomputable def tN_r3:Code:=cAs tN_rg
noncomputable def tN_bd:Code:=cIn (cBd tN_rg)
noncomputable def tN_r4:Code:=cFst tN_bd
noncomputable def tN_r5:Code:=cFst (cThen (cSnd tN_bd))
noncomputable def tN_r6:Code:=cFst (cSnd (cSnd (cSnd tN_B)))
noncomputable def tN_o:Oper:=opAt tN_r2 1
theorem tN_hc:bodyOf Tryd.f71 = .seq tN_r0 (.seq tN_r1 (.seq (.seq tN_r2 (.block 0 (.rangeFunc (.tmp 12) #[13] tN_r3 (.block 1 (.seq tN_r4 (.cond (.tmp 21) (.seq tN_r5 .ret) .skip)))))) (.seq tN_r6 .ret))):=by kernel_rfl
theorem tN_s2:(opsOf tN_r2).toList.drop 1 = [⟨some 12,.call ⟨.value (.func 87),#[.tmp 11],tysOf tN_o⟩,tN_o.type,tN_o.pos,tN_o.after,none⟩]:=by kernel_rfl
theorem tN_hx (a:Int × Kf613.T) (b c:Int) (al:Al) (r:Int) (h:lget al 6 = some (.ptr 3 0)):xres En.P al (Ln4 (tc4 a) b c r) Tryd.f71.results.toList = some [.int .i64 r]:=by
  show (match lget al 6,xres En.P al (Ln4 (tc4 a) b c r) [] with
    | some p,some xs=>match xload En.P 3 (Ln4 (tc4 a) b c r) p with
      | some x=>some (x :: xs)
      | none=>none
    | _,_=>none) = _
  rw [h]
  kernel_rfl
theorem tN_ok (a:Int × Kf613.T) (b c:Int) {full:List Int} (h:tabStops a = some full):Pure En 71 [.agg (tc4 a),.int .i64 b,.int .i64 c] (.int .i64 (nextV b (tabCols c) full)):=
  next_ok rfl En_ok En_plain Tryd.func71 rfl (by decide) rfl (by simp) rfl Tryd.call87 Tryd.call95 (tA_all a 4) (tI_iter a h) tN_hc ⟨rfl,rfl,rfl,rfl,rfl,rfl,rfl⟩ (by kernel_rfl) (by kernel_rfl) (by kernel_rfl) tN_s2 rfl (fun r x=>by kernel_rfl) (fun r x=>by kernel_rfl) (fun r x=>by kernel_rfl) (fun r x=>by kernel_rfl) (fun r x=>by kernel_rfl) (fun r=>by kernel_rfl) (tN_hx a b (tabCols c))
noncomputable def tabs_Next_c:PCon En:=⟨71,[.st (.tp (.ti .u64) Kf613),.h (.ti .i64),.h (.ti .i64)],.h (.ti .i64),fun a=>tabs_Next a.1 a.2.1 a.2.2,Tryd.call71,fun a v h=>by
  obtain ⟨l,h1,h2⟩:=Option.bind_eq_some_iff.1 h
  have h2:=Option.some.inj h2;subst h2
  exact tN_ok a.1 a.2.1 a.2.2 h1⟩
noncomputable def tK_B:Code:=bodyOf Tryd.f72
noncomputable def tK_r0:Code:=cFst tK_B
noncomputable def tK_r1:Code:=cFst (cSnd tK_B)
noncomputable def tK_m:Code:=cFst (cSnd (cSnd tK_B))
noncomputable def tK_r2:Code:=cFst tK_m
noncomputable def tK_rg:Code:=cIn (cSnd tK_m)
noncomputable def tK_r3:Code:=cAs tK_rg
noncomputable def tK_bd:Code:=cIn (cBd tK_rg)
noncomputable def tK_r4:Code:=cFst (cFst tK_bd)
noncomputable def tK_r5:Code:=cSnd tK_bd
noncomputable def tK_r6:Code:=cFst (cSnd (cSnd (cSnd tK_B)))
noncomputable def tK_o:Oper:=opAt tK_r2 1
theorem tK_hc:bodyOf Tryd.f72 = .seq tK_r0 (.seq tK_r1 (.seq (.seq tK_r2 (.block 0 (.rangeFunc (.tmp 8) #[9] tK_r3 (.block 1 (.seq (.seq tK_r4 (.cond (.tmp 12) (.exit 0) .skip)) tK_r5))))) (.seq tK_r6 .ret))):=by kernel_rfl
theorem tK_s2:(opsOf tK_r2).toList.drop 1 = [⟨some 8,.call ⟨.value (.func 87),#[.tmp 7],tysOf tK_o⟩,tK_o.type,tK_o.pos,tK_o.after,none⟩]:=by kernel_rfl
theorem tK_ok (a:Int × Kf613.T) (b:Int) {full:List Int} (h:tabStops a = some full):Pure En 72 [.agg (tc4 a),.int .i64 b] (.int .i64 (backV b full)):=
  back_ok rfl En_ok En_plain Tryd.func72 rfl (by decide) rfl (by simp) rfl Tryd.call87 Tryd.call95 (tA_all a 3) (tI_iter a h) tK_hc ⟨rfl,rfl,rfl,rfl,rfl,rfl,rfl⟩ (by kernel_rfl) (by kernel_rfl) (by kernel_rfl) tK_s2 rfl (fun r x=>by kernel_rfl) (fun r x=>by kernel_rfl) (fun r x=>by kernel_rfl) (fun r=>by kernel_rfl) (fun r=>by kernel_rfl)
noncomputable def tabs_Back_c:PCon En:=⟨72,[.st (.tp (.ti .u64) Kf613),.h (.ti .i64)],.h (.ti .i64),fun a=>tabs_Back a.1 a.2,Tryd.call72,fun a v h=>by
  obtain ⟨l,h1,h2⟩:=Option.bind_eq_some_iff.1 h
  have h2:=Option.some.inj h2;subst h2
  exact tK_ok a.1 a.2 h1⟩
def screen_work_move_568_ar:List Sh:=[.ptr 0 0,.st K86d9]
def screen_work_move_568_ls:List (Nat × LSh):=[(0,.cs [.h (.ti .i64),.h (.ti .i64),.rww 1 1,.rww 2 1,.h (.ti .i64),.h (.ti .i64),.h .tb,.h (.ti .i64),.h (.ti .i64),.h (.ti .i64),.h (.ti .i64),.h (.ti .i64),.h (.ti .i64),.h (.ti .i64),.h (.ti .i64),.h (.ti .i64),.h (.ti .i64),.h (.ti .i64),.h .tb,.h .tb,.h (.ti .i64),.h (.ti .i64),.h (.ti .i64),.h (.ti .i64),.h (.ti .i64),.h .tb,.h .tb,.h (.ti .u64),.h (.ti .u64),.h (.ti .u64),.h (.ti .u64),.rww 3 1]),(1,.ls (.tf 1 (.tp (.ti .i32) K72c5))),(2,.ls (.tf 2 (.tp (.ti .i32) K72c5))),(3,.ls (.ti .i32)),(1000,.cs []),(1001,.cs [])]
def screen_work_move_568_ot:Tm:=⟨[(0,.tup [])],[],[(4,.ls (.tf 1 (.tp (.ti .i32) K72c5)))],[(0,2,.rww 4 1),(0,4,.h (.ti .i64)),(0,5,.h (.ti .i64)),(0,6,.h .tb)],[1]⟩
theorem screen_work_move_568_dq (a:HT (Sh.hss screen_work_move_568_ar ++ hsL screen_work_move_568_ls)):DI En GT (cl [screen_between_c,tabs_Next_c,tabs_Back_c] [screen_work_feed_4f7_c,screen_work_scroll_d5f_c,screen_work_goTo_d5f_c,screen_work_step_d5f_c]) Tryd.f46.ntmps Tryd.f46.results.toList (bodyOf Tryd.f46) (.seq .leaf (.seq .leaf (.blk (.join ⟨[(6,.h .tb)],[7],[],[],[]⟩ (.reg [(1,{split:=true})]) (.cond (.seq .leaf (.blk (.loop ⟨[(10,.h (.ti .i64))],[11,12,13,14],[(4,.ls (.tf 1 (.tp (.ti .i32) K72c5)))],[(0,2,.rww 4 1),(0,4,.h (.ti .i64))],[1]⟩ [(.exit 1,⟨[],[10,11,12,13,14],[(4,.ls (.tf 1 (.tp (.ti .i32) K72c5)))],[(0,2,.rww 4 1),(0,4,.h (.ti .i64))],[1]⟩)] (.join ⟨[(11,.h .tb)],[],[],[],[]⟩ (.reg [(0,{split:=true})]) (.seq .leaf (.seq (.blk (.reg [(1,{io:=some 0})])) .leaf)))))) (.join ⟨[(15,.h .tb)],[16],[],[],[]⟩ (.reg [(1,{split:=true})]) (.cond (.join ⟨[(27,.h .tb)],(rg 17 10),[],[],[]⟩ (.reg [(10,{split:=true})]) (.cond (.reg [(6,{io:=some 1})]) .leaf)) (.join ⟨[(46,.h .tb)],[47],[],[],[]⟩ (.reg [(1,{split:=true})]) (.cond .leaf (.join ⟨[(52,.h .tb)],[53],[],[],[]⟩ (.reg [(1,{split:=true})]) (.cond (.reg [(5,{io:=some 2})]) (.join ⟨[(60,.h .tb)],[61],[],[],[]⟩ (.reg [(1,{split:=true})]) (.cond (.reg [(5,{io:=some 3})]) (.join ⟨[(68,.h .tb)],[69],[],[],[]⟩ (.reg [(1,{split:=true})]) (.cond (.reg [(9,{con:=0})]) (.join ⟨[(83,.h .tb)],[84],[],[],[]⟩ (.reg [(1,{split:=true})]) (.cond (.reg [(8,{io:=some 2})]) (.join ⟨[(94,.h .tb)],[95],[],[],[]⟩ (.reg [(1,{split:=true})]) (.cond (.seq (.seq .leaf (.blk (.loop ⟨[(98,.h (.ti .i64))],(rg 99 22),[],[(0,5,.h (.ti .i64))],[]⟩ [(.exit 3,⟨[],(rg 98 23),[],[(0,5,.h (.ti .i64))],[]⟩)] (.join ⟨[(99,.h .tb)],[],[],[],[]⟩ (.reg [(0,{split:=true})]) (.seq .leaf (.seq (.blk (.reg [(16,{con:=1})])) .leaf)))))) (.seq .leaf (.blk (.loop ⟨[(124,.h (.ti .i64))],(rg 125 17),[],[(0,5,.h (.ti .i64))],[]⟩ [(.exit 5,⟨[],(rg 124 18),[],[(0,5,.h (.ti .i64))],[]⟩)] (.join ⟨[(125,.h .tb)],[],[],[],[]⟩ (.reg [(0,{split:=true})]) (.seq .leaf (.seq (.blk (.reg [(11,{con:=2})])) .leaf))))))) .leaf))))))))))))))))))) screen_work_move_568_ar screen_work_move_568_ls screen_work_move_568_ot a = screen_work_move_568 a.1 a.2.1 a.2.2.1 a.2.2.2.1 a.2.2.2.2.1 a.2.2.2.2.2.1 a.2.2.2.2.2.2.1 a.2.2.2.2.2.2.2.1 a.2.2.2.2.2.2.2.2.1 a.2.2.2.2.2.2.2.2.2.1 a.2.2.2.2.2.2.2.2.2.2.1 a.2.2.2.2.2.2.2.2.2.2.2.1 a.2.2.2.2.2.2.2.2.2.2.2.2.2.2.2.2.2.2.2.2.2.2.2.2.2.2.1 a.2.2.2.2.2.2.2.2.2.2.2.2.2.2.2.2.2.2.2.2.2.2.2.2.2.2.2.1 a.2.2.2.2.2.2.2.2.2.2.2.2.2.2.2.2.2.2.2.2.2.2.2.2.2.2.2.2.1 a.2.2.2.2.2.2.2.2.2.2.2.2.2.2.2.2.2.2.2.2.2.2.2.2.2.2.2.2.2.1 a.2.2.2.2.2.2.2.2.2.2.2.2.2.2.2.2.2.2.2.2.2.2.2.2.2.2.2.2.2.2.1 a.2.2.2.2.2.2.2.2.2.2.2.2.2.2.2.2.2.2.2.2.2.2.2.2.2.2.2.2.2.2.2.1 a.2.2.2.2.2.2.2.2.2.2.2.2.2.2.2.2.2.2.2.2.2.2.2.2.2.2.2.2.2.2.2.2:=by kernel_rfl
noncomputable def screen_work_move_568_c:ICon En:=⟨46,screen_work_move_568_ar,screen_work_move_568_ls,screen_work_move_568_ot,fun a=>screen_work_move_568 a.1 a.2.1 a.2.2.1 a.2.2.2.1 a.2.2.2.2.1 a.2.2.2.2.2.1 a.2.2.2.2.2.2.1 a.2.2.2.2.2.2.2.1 a.2.2.2.2.2.2.2.2.1 a.2.2.2.2.2.2.2.2.2.1 a.2.2.2.2.2.2.2.2.2.2.1 a.2.2.2.2.2.2.2.2.2.2.2.1 a.2.2.2.2.2.2.2.2.2.2.2.2.2.2.2.2.2.2.2.2.2.2.2.2.2.2.1 a.2.2.2.2.2.2.2.2.2.2.2.2.2.2.2.2.2.2.2.2.2.2.2.2.2.2.2.1 a.2.2.2.2.2.2.2.2.2.2.2.2.2.2.2.2.2.2.2.2.2.2.2.2.2.2.2.2.1 a.2.2.2.2.2.2.2.2.2.2.2.2.2.2.2.2.2.2.2.2.2.2.2.2.2.2.2.2.2.1 a.2.2.2.2.2.2.2.2.2.2.2.2.2.2.2.2.2.2.2.2.2.2.2.2.2.2.2.2.2.2.1 a.2.2.2.2.2.2.2.2.2.2.2.2.2.2.2.2.2.2.2.2.2.2.2.2.2.2.2.2.2.2.2.1 a.2.2.2.2.2.2.2.2.2.2.2.2.2.2.2.2.2.2.2.2.2.2.2.2.2.2.2.2.2.2.2.2,Tryd.call46,fun a v h=>DI_ok rfl En_mixed rfl En_ok Tryd.func46 rfl ⟨rfl,rfl,rfl,rfl⟩ ((screen_work_move_568_dq a).trans h)⟩
def grid_Erase_1_df0_ar:List Sh:=[.st (.tp (.ti .i64) (.ti .i64)),.ptr 0 0]
def grid_Erase_1_df0_ls:List (Nat × LSh):=[(0,.cs [.rww 1 1]),(1,.ls (.tf 1 (.tp (.ti .i32) K72c5))),(1000,.cs []),(1001,.cs [])]
def grid_Erase_1_df0_ot:Tm:=⟨[(0,.h .tb)],[],[],[],[]⟩
theorem grid_Erase_1_df0_dq (a:HT (Sh.hss grid_Erase_1_df0_ar ++ hsL grid_Erase_1_df0_ls)):DI En GT noC Tryd.f97.ntmps Tryd.f97.results.toList (bodyOf Tryd.f97) (.seq .leaf (.seq (.reg [(3,{split:=true}),(10,{split:=true}),(15,{split:=true})]) .leaf)) grid_Erase_1_df0_ar grid_Erase_1_df0_ls grid_Erase_1_df0_ot a = grid_Erase_1_df0 a.1 a.2:=by kernel_rfl
noncomputable def grid_Erase_1_df0_c:ICon En:=⟨97,grid_Erase_1_df0_ar,grid_Erase_1_df0_ls,grid_Erase_1_df0_ot,fun a=>grid_Erase_1_df0 a.1 a.2,Tryd.call97,fun a v h=>DI_ok rfl En_mixed rfl En_ok Tryd.func97 rfl ⟨rfl,rfl,rfl,rfl⟩ ((grid_Erase_1_df0_dq a).trans h)⟩
theorem line_Erase_426_dq (a:HT (Sh.hss [.h (.tl (.tp (.ti .i32) K72c5)),.h (.ti .i64),.h (.ti .i64),.st K92a5])):DFF En GT (cl [line_fine_c,line_Blank_c] [slices_Clone_0e3_c,line_torn_ed0_c]) Tryd.f75.ntmps Tryd.f75.results.toList (bodyOf Tryd.f75) (.seq .leaf (.seq (.join ⟨[(13,.h .tb)],[10,11,12],[],[],[]⟩ (.reg [(2,{con:=0}),(3,{split:=true})]) .leaf) (.seq (.reg [(1,{io:=some 0})]) (.seq .leaf (.seq (.join ⟨[(24,.h .tb)],[22,23],[],[],[]⟩ (.reg [(2,{split:=true})]) .leaf) (.seq (.reg [(2,{io:=some 1})]) (.seq (.reg [(2,{io:=some 1})]) (.seq (.reg [(8,{con:=1})]) .leaf)))))))) [.h (.tl (.tp (.ti .i32) K72c5)),.h (.ti .i64),.h (.ti .i64),.st K92a5] 1 (.tp (.ti .i32) K72c5) a = line_Erase_426 a.1 a.2.1 a.2.2.1 a.2.2.2:=by kernel_rfl
noncomputable def line_Erase_426_c:PCon En:=⟨75,[.h (.tl (.tp (.ti .i32) K72c5)),.h (.ti .i64),.h (.ti .i64),.st K92a5],.h (.tf 1 (.tp (.ti .i32) K72c5)),fun a=>line_Erase_426 a.1 a.2.1 a.2.2.1 a.2.2.2,Tryd.call75,fun a v h=>DFF_ok rfl En_mixed rfl En_ok Tryd.func75 rfl rfl (by decide) ((line_Erase_426_dq a).trans h)⟩
def grid_Erase_5db_ar:List Sh:=[.rww 0 1,.st (.tp (.ti .i64) (.ti .i64)),.st (.tp (.ti .i64) (.ti .i64)),.st K92a5]
def grid_Erase_5db_ls:List (Nat × LSh):=[(0,.ls (.tf 1 (.tp (.ti .i32) K72c5))),(1000,.cs []),(1001,.cs [])]
def grid_Erase_5db_ot:Tm:=⟨[(0,.rww 1 1)],[],[(1,.ls (.tf 1 (.tp (.ti .i32) K72c5)))],[],[]⟩
theorem grid_Erase_5db_dq (a:HT (Sh.hss grid_Erase_5db_ar ++ hsL grid_Erase_5db_ls)):DI En GT (cl [grid_May_c,pen_May_c,line_Erase_426_c] [grid_copied_3fa_c,grid_Erase_1_df0_c]) Tryd.f88.ntmps Tryd.f88.results.toList (bodyOf Tryd.f88) (.seq .leaf (.seq (.join ⟨[(21,.h .tb)],(rg 14 7),[],[],[]⟩ (.reg [(1,{con:=0}),(3,{split:=true}),(5,{con:=1}),(7,{split:=true})]) .leaf) (.seq (.reg [(1,{io:=some 0})]) (.seq .leaf (.seq (.join ⟨[(34,.h .tb)],(rg 25 9),[],[],[]⟩ (.reg [(2,{io:=some 1}),(4,{split:=true}),(7,{io:=some 1}),(9,{split:=true})]) .leaf) (.seq (.seq .leaf (.blk (.loop ⟨[(11,.h (.ti .i64))],([12,13] ++ rg 38 34),[(1006,.ls (.tf 1 (.tp (.ti .i32) K72c5)))],[],[]⟩ [(.exit 0,⟨[],([11,12,13] ++ rg 38 34),[(1006,.ls (.tf 1 (.tp (.ti .i32) K72c5)))],[],[]⟩)] (.seq (.join ⟨[(41,.h .tb)],[38,39,40],[],[],[]⟩ (.reg [(3,{split:=true})]) .leaf) (.seq (.blk (.seq .leaf (.join ⟨[(12,.h (.ti .i64))],(rg 48 6),[],[],[]⟩ (.join ⟨[(51,.h .tb)],[48,49,50],[],[],[]⟩ (.reg [(3,{split:=true})]) .leaf) (.join ⟨[(13,.h (.ti .i64))],(rg 54 7),[],[],[]⟩ (.join ⟨[(57,.h .tb)],[54,55,56],[],[],[]⟩ (.reg [(3,{split:=true})]) .leaf) (.reg [(9,{con:=2})]))))) .leaf))))) .leaf)))))) grid_Erase_5db_ar grid_Erase_5db_ls grid_Erase_5db_ot a = grid_Erase_5db a.1 a.2.1 a.2.2.1 a.2.2.2:=by kernel_rfl
noncomputable def grid_Erase_5db_c:ICon En:=⟨88,grid_Erase_5db_ar,grid_Erase_5db_ls,grid_Erase_5db_ot,fun a=>grid_Erase_5db a.1 a.2.1 a.2.2.1 a.2.2.2,Tryd.call88,fun a v h=>DI_ok rfl En_mixed rfl En_ok Tryd.func88 rfl ⟨rfl,rfl,rfl,rfl⟩ ((grid_Erase_5db_dq a).trans h)⟩
def screen_work_erase_ec4_ar:List Sh:=[.ptr 0 0,.h (.ti .i64),.st (.tp (.ti .i64) (.ti .i64)),.st (.tp (.ti .i64) (.ti .i64)),.st (.tp (.ti .i64) (.ti .i64))]
def screen_work_erase_ec4_ls:List (Nat × LSh):=[(0,.cs [.h (.ti .i64),.h (.ti .i64),.rww 1 1,.rww 2 1,.h (.ti .i64),.h (.ti .i64),.h .tb,.h (.ti .i64),.h (.ti .i64),.h (.ti .i64),.h (.ti .i64),.h (.ti .i64),.h (.ti .i64),.h (.ti .i64),.h (.ti .i64),.h (.ti .i64),.h (.ti .i64),.h (.ti .i64),.h .tb,.h .tb,.h (.ti .i64),.h (.ti .i64),.h (.ti .i64),.h (.ti .i64),.h (.ti .i64),.h .tb,.h .tb,.h (.ti .u64),.h (.ti .u64),.h (.ti .u64),.h (.ti .u64),.rww 3 1]),(1,.ls (.tf 1 (.tp (.ti .i32) K72c5))),(2,.ls (.tf 2 (.tp (.ti .i32) K72c5))),(3,.ls (.ti .i32)),(1000,.cs []),(1001,.cs [])]
def screen_work_erase_ec4_ot:Tm:=⟨[(0,.tup [])],[],[(4,.ls (.tf 1 (.tp (.ti .i32) K72c5)))],[(0,2,.rww 4 1)],[1]⟩
theorem screen_work_erase_ec4_dq (a:HT (Sh.hss screen_work_erase_ec4_ar ++ hsL screen_work_erase_ec4_ls)):DI En GT (cl [] [grid_Erase_5db_c]) Tryd.f73.ntmps Tryd.f73.results.toList (bodyOf Tryd.f73) (.seq .leaf (.seq .leaf (.blk (.join ⟨[(11,.h .tb)],[12],[],[],[]⟩ (.reg [(1,{split:=true})]) (.cond (.reg [(13,{io:=some 0})]) (.join ⟨[(30,.h .tb)],[31],[],[],[]⟩ (.reg [(1,{split:=true})]) (.cond (.reg [(13,{io:=some 0})]) (.join ⟨[(49,.h .tb)],[50],[],[],[]⟩ (.reg [(1,{split:=true})]) (.cond (.reg [(13,{io:=some 0})]) .leaf))))))))) screen_work_erase_ec4_ar screen_work_erase_ec4_ls screen_work_erase_ec4_ot a = screen_work_erase_ec4 a.1 a.2.1 a.2.2.1 a.2.2.2.1 a.2.2.2.2.2.2.2.2.2.1 a.2.2.2.2.2.2.2.2.2.2.1 a.2.2.2.2.2.2.2.2.2.2.2.1 a.2.2.2.2.2.2.2.2.2.2.2.2.2.2.2.2.2.2.2.2.2.2.2.2.2.2.2.2.2.2.2.2.2.1:=by kernel_rfl
noncomputable def screen_work_erase_ec4_c:ICon En:=⟨73,screen_work_erase_ec4_ar,screen_work_erase_ec4_ls,screen_work_erase_ec4_ot,fun a=>screen_work_erase_ec4 a.1 a.2.1 a.2.2.1 a.2.2.2.1 a.2.2.2.2.2.2.2.2.2.1 a.2.2.2.2.2.2.2.2.2.2.1 a.2.2.2.2.2.2.2.2.2.2.2.1 a.2.2.2.2.2.2.2.2.2.2.2.2.2.2.2.2.2.2.2.2.2.2.2.2.2.2.2.2.2.2.2.2.2.1,Tryd.call73,fun a v h=>DI_ok rfl En_mixed rfl En_ok Tryd.func73 rfl ⟨rfl,rfl,rfl,rfl⟩ ((screen_work_erase_ec4_dq a).trans h)⟩
theorem line_Delete_426_dq (a:HT (Sh.hss [.h (.tl (.tp (.ti .i32) K72c5)),.h (.ti .i64),.h (.ti .i64),.st K92a5])):DFF En GT (cl [line_fine_c,line_Blank_c] [slices_Clone_0e3_c,line_torn_ed0_c]) Tryd.f74.ntmps Tryd.f74.results.toList (bodyOf Tryd.f74) (.seq .leaf (.seq (.join ⟨[(13,.h .tb)],[10,11,12],[],[],[]⟩ (.reg [(2,{con:=0}),(3,{split:=true})]) .leaf) (.seq (.reg [(1,{io:=some 0})]) (.seq (.join ⟨[(27,.h .tb)],(rg 16 11),[],[],[]⟩ (.reg [(2,{split:=true}),(6,{split:=true}),(11,{split:=true})]) .leaf) (.seq .leaf (.seq (.reg [(2,{io:=some 1})]) (.seq (.reg [(4,{io:=some 1})]) (.seq .leaf (.seq (.reg [(8,{con:=1})]) .leaf))))))))) [.h (.tl (.tp (.ti .i32) K72c5)),.h (.ti .i64),.h (.ti .i64),.st K92a5] 1 (.tp (.ti .i32) K72c5) a = line_Delete_426 a.1 a.2.1 a.2.2.1 a.2.2.2:=by kernel_rfl
noncomputable def line_Delete_426_c:PCon En:=⟨74,[.h (.tl (.tp (.ti .i32) K72c5)),.h (.ti .i64),.h (.ti .i64),.st K92a5],.h (.tf 1 (.tp (.ti .i32) K72c5)),fun a=>line_Delete_426 a.1 a.2.1 a.2.2.1 a.2.2.2,Tryd.call74,fun a v h=>DFF_ok rfl En_mixed rfl En_ok Tryd.func74 rfl rfl (by decide) ((line_Delete_426_dq a).trans h)⟩
def screen_work_align_f36_ar:List Sh:=[.ptr 0 0]
def screen_work_align_f36_ls:List (Nat × LSh):=[(0,.cs [.h (.ti .i64),.h (.ti .i64),.rww 1 1,.rww 2 1,.h (.ti .i64),.h (.ti .i64),.h .tb,.h (.ti .i64),.h (.ti .i64),.h (.ti .i64),.h (.ti .i64),.h (.ti .i64),.h (.ti .i64),.h (.ti .i64),.h (.ti .i64),.h (.ti .i64),.h (.ti .i64),.h (.ti .i64),.h .tb,.h .tb,.h (.ti .i64),.h (.ti .i64),.h (.ti .i64),.h (.ti .i64),.h (.ti .i64),.h .tb,.h .tb,.h (.ti .u64),.h (.ti .u64),.h (.ti .u64),.h (.ti .u64),.rww 3 1]),(1,.ls (.tf 1 (.tp (.ti .i32) K72c5))),(2,.ls (.tf 2 (.tp (.ti .i32) K72c5))),(3,.ls (.ti .i32)),(1000,.cs [])]
def screen_work_align_f36_ot:Tm:=⟨[(0,.tup [])],[],[(1,.ls (.tf 1 (.tp (.ti .i32) K72c5)))],[(0,4,.k (.int .i64 0)),(0,5,.k (.int .i64 0)),(0,10,.k (.int .i64 0)),(0,11,.h (.ti .i64))],[]⟩
abbrev screen_work_align_f36_T:ET:=.tp (.ti .i32) K72c5
def screen_work_align_f36_e:screen_work_align_f36_T.T:=(69,(0,0),0,0,0,0)
noncomputable def screen_work_align_f36_L (a:HT (Sh.hss screen_work_align_f36_ar ++ hsL screen_work_align_f36_ls)):DLb:=(inS screen_work_align_f36_ar screen_work_align_f36_ls (unpack _ a)).L
noncomputable def screen_work_align_f36_c0 (a:HT (Sh.hss screen_work_align_f36_ar ++ hsL screen_work_align_f36_ls)):List DV:=match screen_work_align_f36_L a with
  | (_,.cs d) :: _=>d
  | _=>[]
noncomputable def screen_work_align_f36_Lr (a:HT (Sh.hss screen_work_align_f36_ar ++ hsL screen_work_align_f36_ls)):DLb:=match screen_work_align_f36_L a with
  | _ :: _ :: r=>r
  | _=>[]
noncomputable def screen_work_align_f36_B:Code:=(bodyOf Tryd.f76)
noncomputable def screen_work_align_f36_r0:Code:=cFst (cFst screen_work_align_f36_B)
noncomputable def screen_work_align_f36_b1:Code:=cIn (cIn (cSnd (cFst screen_work_align_f36_B)))
noncomputable def screen_work_align_f36_r1:Code:=cFst screen_work_align_f36_b1
noncomputable def screen_work_align_f36_b2:Code:=cIn (cFst (cSnd (cSnd screen_work_align_f36_b1)))
noncomputable def screen_work_align_f36_r8:Code:=cSnd (cSnd (cSnd screen_work_align_f36_b1))
noncomputable def screen_work_align_f36_r2:Code:=cFst screen_work_align_f36_b2
noncomputable def screen_work_align_f36_c3:Code:=cSnd screen_work_align_f36_b2
noncomputable def screen_work_align_f36_r3:Code:=cFst screen_work_align_f36_c3
noncomputable def screen_work_align_f36_b3:Code:=cIn (cIn (cSnd screen_work_align_f36_c3))
noncomputable def screen_work_align_f36_r4:Code:=cFst screen_work_align_f36_b3
noncomputable def screen_work_align_f36_r5:Code:=cIn (cFst (cSnd (cSnd screen_work_align_f36_b3)))
noncomputable def screen_work_align_f36_r7:Code:=cSnd (cSnd (cSnd screen_work_align_f36_b3))
noncomputable def screen_work_align_f36_c9:Code:=cSnd screen_work_align_f36_B
theorem screen_work_align_f36_h (a:HT (Sh.hss screen_work_align_f36_ar ++ hsL screen_work_align_f36_ls)):screen_work_align_f36_L a = (0,.cs (screen_work_align_f36_c0 a)) :: (1,.ls (.tf 1 screen_work_align_f36_T) a.2.2.2.2.2.2.2.2.2.2.2.2.2.2.2.2.2.2.2.2.2.2.2.2.2.2.2.2.2.1) :: screen_work_align_f36_Lr a:=by kernel_rfl
theorem screen_work_align_f36_q0 (a:HT (Sh.hss screen_work_align_f36_ar ++ hsL screen_work_align_f36_ls)):D En GT noC Tryd.f76.ntmps screen_work_align_f36_r0 .leaf _ (keys screen_work_align_f36_ls) (sA0 screen_work_align_f36_T (screen_work_align_f36_c0 a) (screen_work_align_f36_Lr a) a.2.2.2.2.2.2.2.2.2.2.2.2.2.2.2.2.2.2.2.2.2.2.2.2.2.2.2.2.2.1) pA (fun _ _=>none) = some (a.2.2.2.2.2.2.2.2.2.2.2.2.2.2.2.2.2.2.2.2.2.2.2.2.2.2.2.2.2.1.length,(a.2.2.2.2.2.2.2.2.2.2.2.2.2.2.2.2.2.2.2.2.2.2.2.2.2.2.2.2.2.1.length:Int),0):=by kernel_rfl
theorem screen_work_align_f36_q1 (a:HT (Sh.hss screen_work_align_f36_ar ++ hsL screen_work_align_f36_ls)) (N:Nat) (r:Int) (rs:List (List screen_work_align_f36_T.T)) (tl:DLb):D En GT noC Tryd.f76.ntmps screen_work_align_f36_r1 .leaf _ (keys screen_work_align_f36_ls) (sA screen_work_align_f36_T (screen_work_align_f36_c0 a) (screen_work_align_f36_Lr a) N r rs tl) pB (fun _ _=>none) = some ((N,(N:Int),r),decide (r < N)):=by kernel_rfl
theorem screen_work_align_f36_q8 (a:HT (Sh.hss screen_work_align_f36_ar ++ hsL screen_work_align_f36_ls)) (N:Nat) (r:Int) (rs:List (List screen_work_align_f36_T.T)) (tl:DLb):D En GT noC Tryd.f76.ntmps screen_work_align_f36_r8 .leaf _ (keys screen_work_align_f36_ls) (sA screen_work_align_f36_T (screen_work_align_f36_c0 a) (screen_work_align_f36_Lr a) N r rs tl) pA (fun _ _=>none) = some (N,(N:Int),IntKind.wrap .i64 (r + 1)):=by kernel_rfl
theorem screen_work_align_f36_q3 (a:HT (Sh.hss screen_work_align_f36_ar ++ hsL screen_work_align_f36_ls)) (N:Nat) (r:Int) (nn:Nat) (dds:List DV) (cont:List screen_work_align_f36_T.T):D En GT noC Tryd.f76.ntmps screen_work_align_f36_r3 .leaf _ (keys screen_work_align_f36_ls) (s3 screen_work_align_f36_T (screen_work_align_f36_c0 a) (screen_work_align_f36_Lr a) N r nn dds cont) (pI1 screen_work_align_f36_T) (fun _ _=>none) = some ((N,(N:Int),r),(nn,(nn:Int),0)):=by kernel_rfl
theorem screen_work_align_f36_q4 (a:HT (Sh.hss screen_work_align_f36_ar ++ hsL screen_work_align_f36_ls)) (N:Nat) (r:Int) (nn:Nat) (k:Int) (dds:List DV) (cont:List screen_work_align_f36_T.T):D En GT noC Tryd.f76.ntmps screen_work_align_f36_r4 .leaf _ (keys screen_work_align_f36_ls) (sI screen_work_align_f36_T (screen_work_align_f36_c0 a) (screen_work_align_f36_Lr a) N r nn k dds cont) (pI2 screen_work_align_f36_T) (fun _ _=>none) = some (((N,(N:Int),r),(nn,(nn:Int),k)),decide (k < nn)):=by kernel_rfl
theorem screen_work_align_f36_q5 (a:HT (Sh.hss screen_work_align_f36_ar ++ hsL screen_work_align_f36_ls)) (N:Nat) (r:Int) (nn:Nat) (k:Int) (dds:List DV) (cont:List screen_work_align_f36_T.T):D En GT noC Tryd.f76.ntmps screen_work_align_f36_r5 .leaf _ (keys screen_work_align_f36_ls) (sI screen_work_align_f36_T (screen_work_align_f36_c0 a) (screen_work_align_f36_Lr a) N r nn k dds cont) (pI3 screen_work_align_f36_T) (fun _ _=>none) = req (0 ≤ k ∧ k < nn) ((cont[k.toNat]?).bind fun _=>some (((N,(N:Int),r),(nn,(nn:Int),k)),cont.set k.toNat screen_work_align_f36_e)):=by kernel_rfl
theorem screen_work_align_f36_q7 (a:HT (Sh.hss screen_work_align_f36_ar ++ hsL screen_work_align_f36_ls)) (N:Nat) (r:Int) (nn:Nat) (k:Int) (dds:List DV) (cont:List screen_work_align_f36_T.T):D En GT noC Tryd.f76.ntmps screen_work_align_f36_r7 .leaf _ (keys screen_work_align_f36_ls) (sI screen_work_align_f36_T (screen_work_align_f36_c0 a) (screen_work_align_f36_Lr a) N r nn k dds cont) (pI1 screen_work_align_f36_T) (fun _ _=>none) = some ((N,(N:Int),r),(nn,(nn:Int),IntKind.wrap .i64 (k + 1))):=by kernel_rfl
theorem screen_work_align_f36_dq (a:HT (Sh.hss screen_work_align_f36_ar ++ hsL screen_work_align_f36_ls)):DIA En GT noC Tryd.f76.ntmps Tryd.f76.results.toList screen_work_align_f36_c9 .leaf screen_work_align_f36_ar screen_work_align_f36_ls screen_work_align_f36_ot screen_work_align_f36_T screen_work_align_f36_e a = screen_work_align_f36 a.1 a.2.2.2.2.2.2.2.2.2.2.2.2.2.2.2.2.2.2.2.2.2.2.2.2.2.2.2.2.2.1:=by kernel_rfl
theorem screen_work_align_f36_hc:bodyOf Tryd.f76 = .seq (.seq screen_work_align_f36_r0 (.block 0 (.loop (.seq screen_work_align_f36_r1 (.seq (.cond (.tmp 12) .skip (.exit 0)) (.seq (.block 1 (.seq screen_work_align_f36_r2 (.seq screen_work_align_f36_r3 (.block 2 (.loop (.seq screen_work_align_f36_r4 (.seq (.cond (.tmp 18) .skip (.exit 2)) (.seq (.block 3 screen_work_align_f36_r5) screen_work_align_f36_r7)))))))) screen_work_align_f36_r8)))))) screen_work_align_f36_c9:=by kernel_rfl
theorem screen_work_align_f36_h2:screen_work_align_f36_r2 = .region 2 #[⟨some 13,.indexAddr 22 (.tmp 9) (.tmp 11),(opAt screen_work_align_f36_r2 0).type,(opAt screen_work_align_f36_r2 0).pos,(opAt screen_work_align_f36_r2 0).after,none⟩,⟨some 14,.load 49 (.tmp 13),(opAt screen_work_align_f36_r2 1).type,(opAt screen_work_align_f36_r2 1).pos,(opAt screen_work_align_f36_r2 1).after,none⟩,⟨some 3,.assign (.tmp 14),(opAt screen_work_align_f36_r2 2).type,(opAt screen_work_align_f36_r2 2).pos,(opAt screen_work_align_f36_r2 2).after,none⟩] false:=by kernel_rfl
theorem screen_work_align_f36_k1 (a:HT (Sh.hss screen_work_align_f36_ar ++ hsL screen_work_align_f36_ls)):(keys screen_work_align_f36_ls).elem rlab = false ∧ (keys screen_work_align_f36_ls).elem fkeep = false ∧ lget (screen_work_align_f36_Lr a) 1 = none ∧ lget (screen_work_align_f36_Lr a) rlab = none ∧ othC (.cs (screen_work_align_f36_c0 a)) = true ∧ (screen_work_align_f36_Lr a).all (fun p=>othC p.2) = true ∧ (((0,.cs (screen_work_align_f36_c0 a)) :: (1,.ls (.tf 1 screen_work_align_f36_T) a.2.2.2.2.2.2.2.2.2.2.2.2.2.2.2.2.2.2.2.2.2.2.2.2.2.2.2.2.2.1) :: screen_work_align_f36_Lr a:DLb).all fun p=>dcLabsN (fun l=>(keys ((0,.cs (screen_work_align_f36_c0 a)) :: (1,.ls (.tf 1 screen_work_align_f36_T) a.2.2.2.2.2.2.2.2.2.2.2.2.2.2.2.2.2.2.2.2.2.2.2.2.2.2.2.2.2.1) :: screen_work_align_f36_Lr a:DLb)).elem l) p.2) = true:=
  ⟨by kernel_rfl,by kernel_rfl,by kernel_rfl,by kernel_rfl,by kernel_rfl,by kernel_rfl,by kernel_rfl⟩
theorem screen_work_align_f36_u1:En.P.underlying 22 = some (.slice 49):=by kernel_rfl
theorem screen_work_align_f36_u2:(En.P.info? 49).map (fun i=>i.size) = some 1:=by kernel_rfl
theorem screen_work_align_f36_u3:rowOf En.P 49 = some false:=by kernel_rfl
noncomputable def screen_work_align_f36_c:ICon En:=⟨76,screen_work_align_f36_ar,screen_work_align_f36_ls,screen_work_align_f36_ot,fun a=>screen_work_align_f36 a.1 a.2.2.2.2.2.2.2.2.2.2.2.2.2.2.2.2.2.2.2.2.2.2.2.2.2.2.2.2.2.1,Tryd.call76,fun a v h=>align_ok rfl En_mixed rfl En_ok Tryd.func76 rfl ⟨rfl,rfl,rfl,rfl⟩ screen_work_align_f36_hc screen_work_align_f36_h2 screen_work_align_f36_u1 screen_work_align_f36_u2 screen_work_align_f36_u3 (by decide) rfl (screen_work_align_f36_h a) rfl (screen_work_align_f36_k1 a) (screen_work_align_f36_q0 a) (screen_work_align_f36_q1 a) (screen_work_align_f36_q8 a) (screen_work_align_f36_q3 a) (screen_work_align_f36_q4 a) (fun N r nn k dds cont h0 h1 h2=>(screen_work_align_f36_q5 a N r nn k dds cont).trans (by rw [req_pos ⟨h0,h1⟩,List.getElem?_eq_getElem (by omega)];rfl)) (screen_work_align_f36_q7 a) ((screen_work_align_f36_dq a).trans h)⟩
theorem line_Fit_e66_dq (a:HT (Sh.hss [.h (.tl (.tp (.ti .i32) K72c5)),.h (.ti .i64)])):DFF En GT (cl [line_May_c,line_Blank_c] [slices_Clone_0e3_c,line_torn_ed0_c]) Tryd.f98.ntmps Tryd.f98.results.toList (bodyOf Tryd.f98) (.seq .leaf (.seq (.join ⟨[(16,.h .tb)],(rg 6 10),[],[],[]⟩ (.reg [(1,{con:=0}),(3,{split:=true}),(7,{split:=true}),(10,{split:=true})]) .leaf) (.seq (.reg [(1,{io:=some 0})]) (.seq (.reg [(2,{io:=some 1})]) (.seq (.reg [(13,{con:=1})]) .leaf))))) [.h (.tl (.tp (.ti .i32) K72c5)),.h (.ti .i64)] 1 (.tp (.ti .i32) K72c5) a = line_Fit_e66 a.1 a.2:=by kernel_rfl
noncomputable def line_Fit_e66_c:PCon En:=⟨98,[.h (.tl (.tp (.ti .i32) K72c5)),.h (.ti .i64)],.h (.tf 1 (.tp (.ti .i32) K72c5)),fun a=>line_Fit_e66 a.1 a.2,Tryd.call98,fun a v h=>DFF_ok rfl En_mixed rfl En_ok Tryd.func98 rfl rfl (by decide) ((line_Fit_e66_dq a).trans h)⟩
def grid_Fit_3da_ar:List Sh:=[.rww 0 1,.h (.ti .i64),.h (.ti .i64),.h (.ti .i64)]
def grid_Fit_3da_ls:List (Nat × LSh):=[(0,.ls (.tf 1 (.tp (.ti .i32) K72c5))),(1000,.cs []),(1001,.cs [])]
def grid_Fit_3da_ot:Tm:=⟨[(0,.rww 1 1)],[],[(1,.ls (.tf 1 (.tp (.ti .i32) K72c5)))],[],[]⟩
theorem grid_Fit_3da_dq (a:HT (Sh.hss grid_Fit_3da_ar ++ hsL grid_Fit_3da_ls)):DI En GT (cl [grid_May_c,grid_side_c,line_Fit_e66_c] [grid_Blank_d8f_c]) Tryd.f89.ntmps Tryd.f89.results.toList (bodyOf Tryd.f89) (.seq .leaf (.seq (.join ⟨[(34,.h .tb)],(rg 12 22),[],[],[]⟩ (.reg [(1,{con:=0}),(3,{split:=true}),(5,{con:=1}),(8,{split:=true}),(10,{con:=1}),(13,{split:=true}),(17,{split:=true}),(22,{split:=true})]) .leaf) (.seq (.reg [(3,{io:=some 0})]) (.seq (.seq .leaf (.blk (.loop ⟨[(43,.h (.ti .i64))],([10,11] ++ rg 44 14),[(1002,.ls (.tf 1 (.tp (.ti .i32) K72c5)))],[],[]⟩ [(.exit 0,⟨[],([10,11] ++ rg 43 15),[(1002,.ls (.tf 1 (.tp (.ti .i32) K72c5)))],[],[]⟩)] (.join ⟨[(44,.h .tb)],[],[],[],[]⟩ (.reg [(0,{split:=true})]) (.seq .leaf (.join ⟨[],([10,11] ++ rg 45 12),[(1002,.ls (.tf 1 (.tp (.ti .i32) K72c5)))],[],[]⟩ (.blk (.seq .leaf (.join ⟨[(50,.h .tb)],[48,49],[],[],[]⟩ (.reg [(2,{split:=true})]) (.cond (.reg [(4,{con:=2})]) .leaf)))) .leaf)))))) .leaf)))) grid_Fit_3da_ar grid_Fit_3da_ls grid_Fit_3da_ot a = grid_Fit_3da a.1 a.2.1 a.2.2.1 a.2.2.2:=by kernel_rfl
noncomputable def grid_Fit_3da_c:ICon En:=⟨89,grid_Fit_3da_ar,grid_Fit_3da_ls,grid_Fit_3da_ot,fun a=>grid_Fit_3da a.1 a.2.1 a.2.2.1 a.2.2.2,Tryd.call89,fun a v h=>DI_ok rfl En_mixed rfl En_ok Tryd.func89 rfl ⟨rfl,rfl,rfl,rfl⟩ ((grid_Fit_3da_dq a).trans h)⟩
theorem slices_Repeat_bc9_dq (a:HT (Sh.hss [.h (.tl (.tp (.ti .i32) K72c5)),.h (.ti .i64)])):DFF En GT (cl [bits_Mul_c] []) Tryd.f49.ntmps Tryd.f49.results.toList (bodyOf Tryd.f49) (.seq .leaf (.seq (.join ⟨[(10,.h .tb)],[9],[],[],[]⟩ (.reg [(1,{split:=true})]) .leaf) (.seq (.reg [(5,{con:=0})]) (.seq (.join ⟨[(26,.h .tb)],[21,22,23,24,25],[],[],[]⟩ (.reg [(2,{split:=true}),(5,{split:=true})]) .leaf) (.seq .leaf (.seq .leaf (.seq (.blk (.loop ⟨[(8,.h (.ti .i64))],(rg 34 13),[(0,.ls (.tp (.ti .i32) K72c5))],[],[]⟩ [(.exit 0,⟨[],([8] ++ rg 34 13),[(0,.ls (.tp (.ti .i32) K72c5))],[],[]⟩)] (.seq (.join ⟨[(37,.h .tb)],[34,35,36],[],[],[]⟩ (.reg [(3,{split:=true})]) .leaf) .leaf))) .leaf))))))) [.h (.tl (.tp (.ti .i32) K72c5)),.h (.ti .i64)] 2 (.tp (.ti .i32) K72c5) a = slices_Repeat_bc9 a.1 a.2:=by kernel_rfl
noncomputable def slices_Repeat_bc9_c:PCon En:=⟨49,[.h (.tl (.tp (.ti .i32) K72c5)),.h (.ti .i64)],.h (.tf 2 (.tp (.ti .i32) K72c5)),fun a=>slices_Repeat_bc9 a.1 a.2,Tryd.call49,fun a v h=>DFF_ok rfl En_mixed rfl En_ok Tryd.func49 rfl rfl (by decide) ((slices_Repeat_bc9_dq a).trans h)⟩
theorem line_Blank_366_dq (a:HT (Sh.hss [.h (.ti .i64),.st K92a5])):DFF En GT (cl [pen_May_c,line_blank_c,slices_Repeat_bc9_c] []) Tryd.f30.ntmps Tryd.f30.results.toList (bodyOf Tryd.f30) (.seq .leaf (.seq (.join ⟨[(15,.h .tb)],(rg 5 10),[],[],[]⟩ (.reg [(2,{split:=true}),(6,{split:=true}),(8,{con:=0}),(10,{split:=true})]) .leaf) (.seq (.reg [(1,{con:=1}),(4,{con:=2})]) .leaf))) [.h (.ti .i64),.st K92a5] 2 (.tp (.ti .i32) K72c5) a = line_Blank_366 a.1 a.2:=by kernel_rfl
noncomputable def line_Blank_366_c:PCon En:=⟨30,[.h (.ti .i64),.st K92a5],.h (.tf 2 (.tp (.ti .i32) K72c5)),fun a=>line_Blank_366 a.1 a.2,Tryd.call30,fun a v h=>DFF_ok rfl En_mixed rfl En_ok Tryd.func30 rfl rfl (by decide) ((line_Blank_366_dq a).trans h)⟩
def grid_Blank_0b0_ar:List Sh:=[.h (.ti .i64),.h (.ti .i64),.st K92a5]
def grid_Blank_0b0_ls:List (Nat × LSh):=[(1000,.cs []),(1001,.cs [])]
def grid_Blank_0b0_ot:Tm:=⟨[(0,.rww 0 1)],[],[(0,.ls (.tf 2 (.tp (.ti .i32) K72c5)))],[],[]⟩
theorem grid_Blank_0b0_dq (a:HT (Sh.hss grid_Blank_0b0_ar ++ hsL grid_Blank_0b0_ls)):DI En GT (cl [grid_side_c,pen_May_c,line_Blank_366_c] []) Tryd.f16.ntmps Tryd.f16.results.toList (bodyOf Tryd.f16) (.seq .leaf (.seq (.join ⟨[(21,.h .tb)],(rg 9 12),[],[],[]⟩ (.reg [(1,{con:=0}),(3,{split:=true}),(5,{con:=0}),(8,{split:=true}),(10,{con:=1}),(12,{split:=true})]) .leaf) (.seq (.reg [(1,{fq:=2})]) (.seq (.seq .leaf (.blk (.loop ⟨[(26,.h (.ti .i64))],([8] ++ rg 27 9),[(1003,.ls (.tf 2 (.tp (.ti .i32) K72c5)))],[],[]⟩ [(.exit 0,⟨[],([8] ++ rg 26 10),[(1003,.ls (.tf 2 (.tp (.ti .i32) K72c5)))],[],[]⟩)] (.join ⟨[(27,.h .tb)],[],[],[],[]⟩ (.reg [(0,{split:=true})]) (.seq .leaf (.seq (.blk (.seq .leaf (.reg [(4,{con:=2})]))) .leaf)))))) .leaf)))) grid_Blank_0b0_ar grid_Blank_0b0_ls grid_Blank_0b0_ot a = grid_Blank_0b0 a.1 a.2.1 a.2.2:=by kernel_rfl
noncomputable def grid_Blank_0b0_c:ICon En:=⟨16,grid_Blank_0b0_ar,grid_Blank_0b0_ls,grid_Blank_0b0_ot,fun a=>grid_Blank_0b0 a.1 a.2.1 a.2.2,Tryd.call16,fun a v h=>DI_ok rfl En_mixed rfl En_ok Tryd.func16 rfl ⟨rfl,rfl,rfl,rfl⟩ ((grid_Blank_0b0_dq a).trans h)⟩
theorem line_Fit_5c6_dq (a:HT (Sh.hss [.h (.tl (.tp (.ti .i32) K72c5)),.h (.ti .i64)])):DFF En GT (cl [line_May_c,line_Blank_c] [slices_Clone_0e3_c,line_torn_ed0_c]) Tryd.f98.ntmps Tryd.f98.results.toList (bodyOf Tryd.f98) (.seq .leaf (.seq (.join ⟨[(16,.h .tb)],(rg 6 10),[],[],[]⟩ (.reg [(1,{con:=0}),(3,{split:=true}),(7,{split:=true}),(10,{split:=true})]) .leaf) (.seq (.reg [(1,{io:=some 0})]) (.seq (.reg [(2,{io:=some 1})]) (.seq (.reg [(13,{con:=1})]) .leaf))))) [.h (.tl (.tp (.ti .i32) K72c5)),.h (.ti .i64)] 2 (.tp (.ti .i32) K72c5) a = line_Fit_5c6 a.1 a.2:=by kernel_rfl
noncomputable def line_Fit_5c6_c:PCon En:=⟨98,[.h (.tl (.tp (.ti .i32) K72c5)),.h (.ti .i64)],.h (.tf 2 (.tp (.ti .i32) K72c5)),fun a=>line_Fit_5c6 a.1 a.2,Tryd.call98,fun a v h=>DFF_ok rfl En_mixed rfl En_ok Tryd.func98 rfl rfl (by decide) ((line_Fit_5c6_dq a).trans h)⟩
def grid_Fit_63e_ar:List Sh:=[.rww 0 1,.h (.ti .i64),.h (.ti .i64),.h (.ti .i64)]
def grid_Fit_63e_ls:List (Nat × LSh):=[(0,.ls (.tf 2 (.tp (.ti .i32) K72c5))),(1000,.cs []),(1001,.cs [])]
def grid_Fit_63e_ot:Tm:=⟨[(0,.rww 1 1)],[],[(1,.ls (.tf 2 (.tp (.ti .i32) K72c5)))],[],[]⟩
theorem grid_Fit_63e_dq (a:HT (Sh.hss grid_Fit_63e_ar ++ hsL grid_Fit_63e_ls)):DI En GT (cl [grid_May_c,grid_side_c,line_Fit_5c6_c] [grid_Blank_0b0_c]) Tryd.f89.ntmps Tryd.f89.results.toList (bodyOf Tryd.f89) (.seq .leaf (.seq (.join ⟨[(34,.h .tb)],(rg 12 22),[],[],[]⟩ (.reg [(1,{con:=0}),(3,{split:=true}),(5,{con:=1}),(8,{split:=true}),(10,{con:=1}),(13,{split:=true}),(17,{split:=true}),(22,{split:=true})]) .leaf) (.seq (.reg [(3,{io:=some 0})]) (.seq (.seq .leaf (.blk (.loop ⟨[(43,.h (.ti .i64))],([10,11] ++ rg 44 14),[(1002,.ls (.tf 2 (.tp (.ti .i32) K72c5)))],[],[]⟩ [(.exit 0,⟨[],([10,11] ++ rg 43 15),[(1002,.ls (.tf 2 (.tp (.ti .i32) K72c5)))],[],[]⟩)] (.join ⟨[(44,.h .tb)],[],[],[],[]⟩ (.reg [(0,{split:=true})]) (.seq .leaf (.join ⟨[],([10,11] ++ rg 45 12),[(1002,.ls (.tf 2 (.tp (.ti .i32) K72c5)))],[],[]⟩ (.blk (.seq .leaf (.join ⟨[(50,.h .tb)],[48,49],[],[],[]⟩ (.reg [(2,{split:=true})]) (.cond (.reg [(4,{con:=2})]) .leaf)))) .leaf)))))) .leaf)))) grid_Fit_63e_ar grid_Fit_63e_ls grid_Fit_63e_ot a = grid_Fit_63e a.1 a.2.1 a.2.2.1 a.2.2.2:=by kernel_rfl
noncomputable def grid_Fit_63e_c:ICon En:=⟨89,grid_Fit_63e_ar,grid_Fit_63e_ls,grid_Fit_63e_ot,fun a=>grid_Fit_63e a.1 a.2.1 a.2.2.1 a.2.2.2,Tryd.call89,fun a v h=>DI_ok rfl En_mixed rfl En_ok Tryd.func89 rfl ⟨rfl,rfl,rfl,rfl⟩ ((grid_Fit_63e_dq a).trans h)⟩
def screen_work_resize_d5f_ar:List Sh:=[.ptr 0 0,.h (.ti .i64),.h (.ti .i64)]
def screen_work_resize_d5f_ls:List (Nat × LSh):=[(0,.cs [.h (.ti .i64),.h (.ti .i64),.rww 1 1,.rww 2 1,.h (.ti .i64),.h (.ti .i64),.h .tb,.h (.ti .i64),.h (.ti .i64),.h (.ti .i64),.h (.ti .i64),.h (.ti .i64),.h (.ti .i64),.h (.ti .i64),.h (.ti .i64),.h (.ti .i64),.h (.ti .i64),.h (.ti .i64),.h .tb,.h .tb,.h (.ti .i64),.h (.ti .i64),.h (.ti .i64),.h (.ti .i64),.h (.ti .i64),.h .tb,.h .tb,.h (.ti .u64),.h (.ti .u64),.h (.ti .u64),.h (.ti .u64),.rww 3 1]),(1,.ls (.tf 1 (.tp (.ti .i32) K72c5))),(2,.ls (.tf 2 (.tp (.ti .i32) K72c5))),(3,.ls (.ti .i32)),(1000,.cs []),(1001,.cs [])]
def screen_work_resize_d5f_ot:Tm:=⟨[(0,.tup [])],[],[(4,.ls (.tf 1 (.tp (.ti .i32) K72c5))),(5,.ls (.tf 2 (.tp (.ti .i32) K72c5)))],[(0,0,.h (.ti .i64)),(0,1,.h (.ti .i64)),(0,2,.rww 4 1),(0,3,.rww 5 1),(0,4,.h (.ti .i64)),(0,5,.h (.ti .i64)),(0,10,.k (.int .i64 0)),(0,11,.h (.ti .i64)),(0,27,.h (.ti .u64)),(0,28,.h (.ti .u64)),(0,29,.h (.ti .u64)),(0,30,.h (.ti .u64))],[2]⟩
theorem screen_work_resize_d5f_dq (a:HT (Sh.hss screen_work_resize_d5f_ar ++ hsL screen_work_resize_d5f_ls)):DI En GT (cl [tabs_Wider_c] [grid_Fit_3da_c,grid_Fit_63e_c]) Tryd.f77.ntmps Tryd.f77.results.toList (bodyOf Tryd.f77) (.seq .leaf (.seq (.reg [(9,{io:=some 0})]) (.join ⟨[],([7] ++ rg 30 38),[(4,.ls (.tf 2 (.tp (.ti .i32) K72c5)))],[(0,3,.rww 4 1)],[2]⟩ (.join ⟨[(36,.h .tb)],(rg 30 6),[],[],[]⟩ (.reg [(6,{split:=true})]) (.cond (.seq .leaf (.reg [(13,{io:=some 1})])) .leaf)) (.join ⟨[],(rg 68 23),[],[(0,27,.h (.ti .u64)),(0,28,.h (.ti .u64)),(0,29,.h (.ti .u64)),(0,30,.h (.ti .u64))],[]⟩ (.join ⟨[(74,.h .tb)],(rg 68 6),[],[],[]⟩ (.reg [(6,{split:=true})]) (.cond (.reg [(12,{con:=0})]) .leaf)) .leaf)))) screen_work_resize_d5f_ar screen_work_resize_d5f_ls screen_work_resize_d5f_ot a = screen_work_resize_d5f a.1 a.2.1 a.2.2.1 a.2.2.2.1 a.2.2.2.2.1 a.2.2.2.2.2.1 a.2.2.2.2.2.2.2.2.2.2.2.2.2.1 a.2.2.2.2.2.2.2.2.2.2.2.2.2.2.2.2.2.2.2.2.2.2.2.2.2.2.2.1 a.2.2.2.2.2.2.2.2.2.2.2.2.2.2.2.2.2.2.2.2.2.2.2.2.2.2.2.2.1 a.2.2.2.2.2.2.2.2.2.2.2.2.2.2.2.2.2.2.2.2.2.2.2.2.2.2.2.2.2.1 a.2.2.2.2.2.2.2.2.2.2.2.2.2.2.2.2.2.2.2.2.2.2.2.2.2.2.2.2.2.2.1 a.2.2.2.2.2.2.2.2.2.2.2.2.2.2.2.2.2.2.2.2.2.2.2.2.2.2.2.2.2.2.2.1 a.2.2.2.2.2.2.2.2.2.2.2.2.2.2.2.2.2.2.2.2.2.2.2.2.2.2.2.2.2.2.2.2.1:=by kernel_rfl
noncomputable def screen_work_resize_d5f_c:ICon En:=⟨77,screen_work_resize_d5f_ar,screen_work_resize_d5f_ls,screen_work_resize_d5f_ot,fun a=>screen_work_resize_d5f a.1 a.2.1 a.2.2.1 a.2.2.2.1 a.2.2.2.2.1 a.2.2.2.2.2.1 a.2.2.2.2.2.2.2.2.2.2.2.2.2.1 a.2.2.2.2.2.2.2.2.2.2.2.2.2.2.2.2.2.2.2.2.2.2.2.2.2.2.2.1 a.2.2.2.2.2.2.2.2.2.2.2.2.2.2.2.2.2.2.2.2.2.2.2.2.2.2.2.2.1 a.2.2.2.2.2.2.2.2.2.2.2.2.2.2.2.2.2.2.2.2.2.2.2.2.2.2.2.2.2.1 a.2.2.2.2.2.2.2.2.2.2.2.2.2.2.2.2.2.2.2.2.2.2.2.2.2.2.2.2.2.2.1 a.2.2.2.2.2.2.2.2.2.2.2.2.2.2.2.2.2.2.2.2.2.2.2.2.2.2.2.2.2.2.2.1 a.2.2.2.2.2.2.2.2.2.2.2.2.2.2.2.2.2.2.2.2.2.2.2.2.2.2.2.2.2.2.2.2.1,Tryd.call77,fun a v h=>DI_ok rfl En_mixed rfl En_ok Tryd.func77 rfl ⟨rfl,rfl,rfl,rfl⟩ ((screen_work_resize_d5f_dq a).trans h)⟩
def screen_work_edit_537_ar:List Sh:=[.ptr 0 0,.st K86d9]
def screen_work_edit_537_ls:List (Nat × LSh):=[(0,.cs [.h (.ti .i64),.h (.ti .i64),.rww 1 1,.rww 2 1,.h (.ti .i64),.h (.ti .i64),.h .tb,.h (.ti .i64),.h (.ti .i64),.h (.ti .i64),.h (.ti .i64),.h (.ti .i64),.h (.ti .i64),.h (.ti .i64),.h (.ti .i64),.h (.ti .i64),.h (.ti .i64),.h (.ti .i64),.h .tb,.h .tb,.h (.ti .i64),.h (.ti .i64),.h (.ti .i64),.h (.ti .i64),.h (.ti .i64),.h .tb,.h .tb,.h (.ti .u64),.h (.ti .u64),.h (.ti .u64),.h (.ti .u64),.rww 3 1]),(1,.ls (.tf 1 (.tp (.ti .i32) K72c5))),(2,.ls (.tf 2 (.tp (.ti .i32) K72c5))),(3,.ls (.ti .i32)),(1000,.cs [])]
def screen_work_edit_537_ot:Tm:=⟨[(0,.tup [])],[],[(4,.ls (.tf 1 (.tp (.ti .i32) K72c5))),(5,.ls (.tf 2 (.tp (.ti .i32) K72c5)))],[(0,0,.h (.ti .i64)),(0,1,.h (.ti .i64)),(0,2,.rww 4 1),(0,3,.rww 5 1),(0,4,.h (.ti .i64)),(0,5,.h (.ti .i64)),(0,6,.h .tb),(0,10,.h (.ti .i64)),(0,11,.h (.ti .i64)),(0,27,.h (.ti .u64)),(0,28,.h (.ti .u64)),(0,29,.h (.ti .u64)),(0,30,.h (.ti .u64))],[1,2]⟩
theorem screen_work_edit_537_dq (a:HT (Sh.hss screen_work_edit_537_ar ++ hsL screen_work_edit_537_ls)):DI En GT (cl [line_Insert_426_c,line_Delete_426_c,line_Erase_426_c,screen_between_c] [screen_work_erase_ec4_c,screen_work_scroll_d5f_c,screen_work_goTo_d5f_c,screen_work_align_f36_c,screen_work_resize_d5f_c]) Tryd.f47.ntmps Tryd.f47.results.toList (bodyOf Tryd.f47) (.seq .leaf (.seq .leaf (.seq .leaf (.blk (.join ⟨[(46,.h .tb)],[47],[],[],[]⟩ (.reg [(1,{split:=true})]) (.cond (.reg [(22,{io:=some 0})]) (.join ⟨[(71,.h .tb)],[72],[],[],[]⟩ (.reg [(1,{split:=true})]) (.cond (.reg [(6,{io:=some 0})]) (.join ⟨[(80,.h .tb)],[81],[],[],[]⟩ (.reg [(1,{split:=true})]) (.cond (.reg [(23,{con:=0})]) (.join ⟨[(107,.h .tb)],[108],[],[],[]⟩ (.reg [(1,{split:=true})]) (.cond (.reg [(23,{con:=1})]) (.join ⟨[(134,.h .tb)],[135],[],[],[]⟩ (.reg [(1,{split:=true})]) (.cond (.reg [(30,{con:=2})]) (.join ⟨[(168,.h .tb)],[169,170],[],[],[]⟩ (.join ⟨[(168,.h .tb)],[169],[],[],[]⟩ (.reg [(1,{split:=true})]) (.cond .leaf (.reg [(1,{split:=true})]))) (.cond (.seq .leaf (.seq (.join ⟨[(197,.h .tb)],(rg 174 23),[],[],[]⟩ (.reg [(11,{split:=true}),(23,{split:=true})]) .leaf) (.join ⟨[(7,.h (.ti .i64))],[198,199,200,201,202],[],[],[]⟩ (.join ⟨[(200,.h .tb)],[198,199],[],[],[]⟩ (.reg [(2,{split:=true})]) .leaf) (.seq (.reg [(7,{io:=some 1})]) .leaf)))) (.join ⟨[(215,.h .tb)],[216],[],[],[]⟩ (.reg [(1,{split:=true})]) (.cond (.reg [(8,{io:=some 1})]) (.join ⟨[(226,.h .tb)],[227],[],[],[]⟩ (.reg [(1,{split:=true})]) (.cond (.join ⟨[(247,.h .tb)],(rg 228 19),[],[],[]⟩ (.reg [(3,{split:=true}),(10,{split:=true}),(19,{split:=true})]) (.cond (.seq .leaf (.reg [(1,{io:=some 2})])) .leaf)) (.join ⟨[(262,.h .tb)],[263],[],[],[]⟩ (.reg [(1,{split:=true})]) (.cond (.reg [(1,{io:=some 3,wk:=true})]) (.join ⟨[(266,.h .tb)],[267],[],[],[]⟩ (.reg [(1,{split:=true})]) (.cond (.reg [(3,{con:=3}),(6,{con:=3}),(7,{io:=some 4})]) .leaf)))))))))))))))))))))))) screen_work_edit_537_ar screen_work_edit_537_ls screen_work_edit_537_ot a [1001] = screen_work_edit_537 a.1 a.2.1 a.2.2.1 a.2.2.2.1 a.2.2.2.2.1 a.2.2.2.2.2.1 a.2.2.2.2.2.2.1 a.2.2.2.2.2.2.2.1 a.2.2.2.2.2.2.2.2.1 a.2.2.2.2.2.2.2.2.2.1 a.2.2.2.2.2.2.2.2.2.2.1 a.2.2.2.2.2.2.2.2.2.2.2.1 a.2.2.2.2.2.2.2.2.2.2.2.2.1 a.2.2.2.2.2.2.2.2.2.2.2.2.2.2.2.2.2.2.2.2.2.2.2.2.2.2.1 a.2.2.2.2.2.2.2.2.2.2.2.2.2.2.2.2.2.2.2.2.2.2.2.2.2.2.2.1 a.2.2.2.2.2.2.2.2.2.2.2.2.2.2.2.2.2.2.2.2.2.2.2.2.2.2.2.2.1 a.2.2.2.2.2.2.2.2.2.2.2.2.2.2.2.2.2.2.2.2.2.2.2.2.2.2.2.2.2.1 a.2.2.2.2.2.2.2.2.2.2.2.2.2.2.2.2.2.2.2.2.2.2.2.2.2.2.2.2.2.2.1 a.2.2.2.2.2.2.2.2.2.2.2.2.2.2.2.2.2.2.2.2.2.2.2.2.2.2.2.2.2.2.2.1 a.2.2.2.2.2.2.2.2.2.2.2.2.2.2.2.2.2.2.2.2.2.2.2.2.2.2.2.2.2.2.2.2:=by kernel_rfl
noncomputable def screen_work_edit_537_c:ICon En:=⟨47,screen_work_edit_537_ar,screen_work_edit_537_ls,screen_work_edit_537_ot,fun a=>screen_work_edit_537 a.1 a.2.1 a.2.2.1 a.2.2.2.1 a.2.2.2.2.1 a.2.2.2.2.2.1 a.2.2.2.2.2.2.1 a.2.2.2.2.2.2.2.1 a.2.2.2.2.2.2.2.2.1 a.2.2.2.2.2.2.2.2.2.1 a.2.2.2.2.2.2.2.2.2.2.1 a.2.2.2.2.2.2.2.2.2.2.2.1 a.2.2.2.2.2.2.2.2.2.2.2.2.1 a.2.2.2.2.2.2.2.2.2.2.2.2.2.2.2.2.2.2.2.2.2.2.2.2.2.2.1 a.2.2.2.2.2.2.2.2.2.2.2.2.2.2.2.2.2.2.2.2.2.2.2.2.2.2.2.1 a.2.2.2.2.2.2.2.2.2.2.2.2.2.2.2.2.2.2.2.2.2.2.2.2.2.2.2.2.1 a.2.2.2.2.2.2.2.2.2.2.2.2.2.2.2.2.2.2.2.2.2.2.2.2.2.2.2.2.2.1 a.2.2.2.2.2.2.2.2.2.2.2.2.2.2.2.2.2.2.2.2.2.2.2.2.2.2.2.2.2.2.1 a.2.2.2.2.2.2.2.2.2.2.2.2.2.2.2.2.2.2.2.2.2.2.2.2.2.2.2.2.2.2.2.1 a.2.2.2.2.2.2.2.2.2.2.2.2.2.2.2.2.2.2.2.2.2.2.2.2.2.2.2.2.2.2.2.2,Tryd.call47,fun a v h=>DI_ok rfl En_mixed rfl En_ok Tryd.func47 rfl ⟨rfl,rfl,rfl,rfl⟩ ((screen_work_edit_537_dq a).trans h)⟩
def screen_work_change_537_ar:List Sh:=[.ptr 0 0,.st K86d9]
def screen_work_change_537_ls:List (Nat × LSh):=[(0,.cs [.h (.ti .i64),.h (.ti .i64),.rww 1 1,.rww 2 1,.h (.ti .i64),.h (.ti .i64),.h .tb,.h (.ti .i64),.h (.ti .i64),.h (.ti .i64),.h (.ti .i64),.h (.ti .i64),.h (.ti .i64),.h (.ti .i64),.h (.ti .i64),.h (.ti .i64),.h (.ti .i64),.h (.ti .i64),.h .tb,.h .tb,.h (.ti .i64),.h (.ti .i64),.h (.ti .i64),.h (.ti .i64),.h (.ti .i64),.h .tb,.h .tb,.h (.ti .u64),.h (.ti .u64),.h (.ti .u64),.h (.ti .u64),.rww 3 1]),(1,.ls (.tf 1 (.tp (.ti .i32) K72c5))),(2,.ls (.tf 2 (.tp (.ti .i32) K72c5))),(3,.ls (.ti .i32)),(1000,.cs [])]
def screen_work_change_537_ot:Tm:=⟨[(0,.tup [])],[],[(4,.ls (.tf 1 (.tp (.ti .i32) K72c5))),(5,.ls (.tf 2 (.tp (.ti .i32) K72c5))),(6,.ls (.ti .i32))],[(0,0,.h (.ti .i64)),(0,1,.h (.ti .i64)),(0,2,.rww 4 1),(0,3,.rww 5 1),(0,4,.h (.ti .i64)),(0,5,.h (.ti .i64)),(0,6,.h .tb),(0,7,.h (.ti .i64)),(0,8,.h (.ti .i64)),(0,9,.h (.ti .i64)),(0,10,.h (.ti .i64)),(0,11,.h (.ti .i64)),(0,12,.h (.ti .i64)),(0,13,.h (.ti .i64)),(0,14,.h (.ti .i64)),(0,15,.h (.ti .i64)),(0,16,.h (.ti .i64)),(0,17,.h (.ti .i64)),(0,18,.h .tb),(0,19,.h .tb),(0,20,.h (.ti .i64)),(0,21,.h (.ti .i64)),(0,22,.h (.ti .i64)),(0,23,.h (.ti .i64)),(0,24,.h (.ti .i64)),(0,25,.h .tb),(0,26,.h .tb),(0,27,.h (.ti .u64)),(0,28,.h (.ti .u64)),(0,29,.h (.ti .u64)),(0,30,.h (.ti .u64)),(0,31,.rww 6 1)],[1,2,3]⟩
theorem screen_work_change_537_dq (a:HT (Sh.hss screen_work_change_537_ar ++ hsL screen_work_change_537_ls)):DI En GT (cl [pen_Apply_c,cols_Of_c,tabs_Set_c,tabs_Clear_c] [screen_work_print_ec2_c,screen_work_save_4f7_c,screen_work_mode_4a3_c,screen_work_restore_4f7_c,screen_New_aae_c,screen_work_move_568_c,screen_work_edit_537_c]) Tryd.f23.ntmps Tryd.f23.results.toList (bodyOf Tryd.f23) (.seq .leaf (.seq .leaf (.blk (.join ⟨[(26,.h .tb)],[27],[],[],[]⟩ (.reg [(1,{split:=true})]) (.cond (.reg [(3,{io:=some 0})]) (.join ⟨[(32,.h .tb)],[33],[],[],[]⟩ (.reg [(1,{split:=true})]) (.cond (.reg [(8,{con:=0})]) (.join ⟨[(46,.h .tb)],[47],[],[],[]⟩ (.reg [(1,{split:=true})]) (.cond (.seq .leaf (.seq .leaf (.blk (.loop ⟨[(55,.h (.ti .i64))],([5] ++ rg 56 28),[(4,.ls (.ti .i32))],[(0,31,.rww 4 1)],[]⟩ [(.exit 1,⟨[],([5] ++ rg 55 29),[(4,.ls (.ti .i32))],[(0,31,.rww 4 1)],[]⟩)] (.join ⟨[(56,.h .tb)],[],[],[],[]⟩ (.reg [(0,{split:=true})]) (.seq .leaf (.join ⟨[],([5] ++ rg 57 26),[(5,.ls (.ti .i32))],[(0,31,.rww 5 1)],[4]⟩ (.blk (.seq .leaf (.join ⟨[(70,.h .tb)],(rg 59 11),[],[],[]⟩ (.reg [(1,{con:=1}),(3,{split:=true}),(11,{split:=true})]) .leaf))) .leaf))))))) (.join ⟨[(84,.h .tb)],[85],[],[],[]⟩ (.reg [(1,{split:=true})]) (.cond (.seq .leaf (.blk (.join ⟨[(88,.h .tb)],[89],[],[],[]⟩ (.reg [(1,{split:=true})]) (.cond (.reg [(11,{con:=2})]) (.join ⟨[(105,.h .tb)],[106],[],[],[]⟩ (.reg [(1,{split:=true})]) (.cond (.reg [(11,{con:=3})]) (.join ⟨[(122,.h .tb)],[123],[],[],[]⟩ (.reg [(1,{split:=true})]) .leaf))))))) (.join ⟨[(129,.h .tb)],[130],[],[],[]⟩ (.reg [(1,{split:=true})]) (.cond (.reg [(1,{io:=some 1})]) (.join ⟨[(133,.h .tb)],[134],[],[],[]⟩ (.reg [(1,{split:=true})]) (.cond (.reg [(6,{io:=some 2,wk:=true})]) (.join ⟨[(142,.h .tb)],[143],[],[],[]⟩ (.reg [(1,{split:=true})]) (.cond (.reg [(1,{io:=some 3})]) (.join ⟨[(146,.h .tb)],[147],[],[],[]⟩ (.reg [(1,{split:=true})]) (.cond (.reg [(11,{io:=some 4})]) (.join ⟨[(15,.h .tb)],(rg 8 7),[],[],[]⟩ (.reg [(3,{split:=true}),(7,{split:=true})]) (.cond (.seq .leaf (.seq (.reg [(2,{io:=some 5})]) (.reg [(2,{io:=some 6,wk:=true})]))) .leaf))))))))))))))))))))) screen_work_change_537_ar screen_work_change_537_ls screen_work_change_537_ot a [1001] = screen_work_change_537 a.1 a.2.1 a.2.2.1 a.2.2.2.1 a.2.2.2.2.1 a.2.2.2.2.2.1 a.2.2.2.2.2.2.1 a.2.2.2.2.2.2.2.1 a.2.2.2.2.2.2.2.2.1 a.2.2.2.2.2.2.2.2.2.1 a.2.2.2.2.2.2.2.2.2.2.1 a.2.2.2.2.2.2.2.2.2.2.2.1 a.2.2.2.2.2.2.2.2.2.2.2.2.1 a.2.2.2.2.2.2.2.2.2.2.2.2.2.1 a.2.2.2.2.2.2.2.2.2.2.2.2.2.2.1 a.2.2.2.2.2.2.2.2.2.2.2.2.2.2.2.1 a.2.2.2.2.2.2.2.2.2.2.2.2.2.2.2.2.1 a.2.2.2.2.2.2.2.2.2.2.2.2.2.2.2.2.2.1 a.2.2.2.2.2.2.2.2.2.2.2.2.2.2.2.2.2.2.1 a.2.2.2.2.2.2.2.2.2.2.2.2.2.2.2.2.2.2.2.1 a.2.2.2.2.2.2.2.2.2.2.2.2.2.2.2.2.2.2.2.2.1 a.2.2.2.2.2.2.2.2.2.2.2.2.2.2.2.2.2.2.2.2.2.1 a.2.2.2.2.2.2.2.2.2.2.2.2.2.2.2.2.2.2.2.2.2.2.1 a.2.2.2.2.2.2.2.2.2.2.2.2.2.2.2.2.2.2.2.2.2.2.2.1 a.2.2.2.2.2.2.2.2.2.2.2.2.2.2.2.2.2.2.2.2.2.2.2.2.1 a.2.2.2.2.2.2.2.2.2.2.2.2.2.2.2.2.2.2.2.2.2.2.2.2.2.1 a.2.2.2.2.2.2.2.2.2.2.2.2.2.2.2.2.2.2.2.2.2.2.2.2.2.2.1 a.2.2.2.2.2.2.2.2.2.2.2.2.2.2.2.2.2.2.2.2.2.2.2.2.2.2.2.1 a.2.2.2.2.2.2.2.2.2.2.2.2.2.2.2.2.2.2.2.2.2.2.2.2.2.2.2.2.1 a.2.2.2.2.2.2.2.2.2.2.2.2.2.2.2.2.2.2.2.2.2.2.2.2.2.2.2.2.2.1 a.2.2.2.2.2.2.2.2.2.2.2.2.2.2.2.2.2.2.2.2.2.2.2.2.2.2.2.2.2.2.1 a.2.2.2.2.2.2.2.2.2.2.2.2.2.2.2.2.2.2.2.2.2.2.2.2.2.2.2.2.2.2.2.1 a.2.2.2.2.2.2.2.2.2.2.2.2.2.2.2.2.2.2.2.2.2.2.2.2.2.2.2.2.2.2.2.2:=by kernel_rfl
noncomputable def screen_work_change_537_c:ICon En:=⟨23,screen_work_change_537_ar,screen_work_change_537_ls,screen_work_change_537_ot,fun a=>screen_work_change_537 a.1 a.2.1 a.2.2.1 a.2.2.2.1 a.2.2.2.2.1 a.2.2.2.2.2.1 a.2.2.2.2.2.2.1 a.2.2.2.2.2.2.2.1 a.2.2.2.2.2.2.2.2.1 a.2.2.2.2.2.2.2.2.2.1 a.2.2.2.2.2.2.2.2.2.2.1 a.2.2.2.2.2.2.2.2.2.2.2.1 a.2.2.2.2.2.2.2.2.2.2.2.2.1 a.2.2.2.2.2.2.2.2.2.2.2.2.2.1 a.2.2.2.2.2.2.2.2.2.2.2.2.2.2.1 a.2.2.2.2.2.2.2.2.2.2.2.2.2.2.2.1 a.2.2.2.2.2.2.2.2.2.2.2.2.2.2.2.2.1 a.2.2.2.2.2.2.2.2.2.2.2.2.2.2.2.2.2.1 a.2.2.2.2.2.2.2.2.2.2.2.2.2.2.2.2.2.2.1 a.2.2.2.2.2.2.2.2.2.2.2.2.2.2.2.2.2.2.2.1 a.2.2.2.2.2.2.2.2.2.2.2.2.2.2.2.2.2.2.2.2.1 a.2.2.2.2.2.2.2.2.2.2.2.2.2.2.2.2.2.2.2.2.2.1 a.2.2.2.2.2.2.2.2.2.2.2.2.2.2.2.2.2.2.2.2.2.2.1 a.2.2.2.2.2.2.2.2.2.2.2.2.2.2.2.2.2.2.2.2.2.2.2.1 a.2.2.2.2.2.2.2.2.2.2.2.2.2.2.2.2.2.2.2.2.2.2.2.2.1 a.2.2.2.2.2.2.2.2.2.2.2.2.2.2.2.2.2.2.2.2.2.2.2.2.2.1 a.2.2.2.2.2.2.2.2.2.2.2.2.2.2.2.2.2.2.2.2.2.2.2.2.2.2.1 a.2.2.2.2.2.2.2.2.2.2.2.2.2.2.2.2.2.2.2.2.2.2.2.2.2.2.2.1 a.2.2.2.2.2.2.2.2.2.2.2.2.2.2.2.2.2.2.2.2.2.2.2.2.2.2.2.2.1 a.2.2.2.2.2.2.2.2.2.2.2.2.2.2.2.2.2.2.2.2.2.2.2.2.2.2.2.2.2.1 a.2.2.2.2.2.2.2.2.2.2.2.2.2.2.2.2.2.2.2.2.2.2.2.2.2.2.2.2.2.2.1 a.2.2.2.2.2.2.2.2.2.2.2.2.2.2.2.2.2.2.2.2.2.2.2.2.2.2.2.2.2.2.2.1 a.2.2.2.2.2.2.2.2.2.2.2.2.2.2.2.2.2.2.2.2.2.2.2.2.2.2.2.2.2.2.2.2,Tryd.call23,fun a v h=>DI_ok rfl En_mixed rfl En_ok Tryd.func23 rfl ⟨rfl,rfl,rfl,rfl⟩ ((screen_work_change_537_dq a).trans h)⟩
theorem screen_Do_dq (a:HT (Sh.hss [.st (.tp (.ti .i64) (.tp (.ti .i64) K05d1)),.h (.tl K86d9)])):DF En GT (cl [screen_May_c,screen_between_c] [screen_copied_ed7_c,screen_copied_b13_c,slices_Clone_b44_c,screen_work_change_537_c]) Tryd.f10.ntmps Tryd.f10.results.toList (bodyOf Tryd.f10) (.seq .leaf (.seq (.join ⟨[(10,.h .tb)],[8,9],[],[],[]⟩ (.reg [(1,{con:=0}),(2,{split:=true})]) .leaf) (.seq .leaf (.seq (.reg [(5,{io:=some 0}),(8,{io:=some 1}),(11,{io:=some 2})]) (.seq (.seq .leaf (.blk (.loop ⟨[(38,.h (.ti .i64))],([7,20,23,26] ++ rg 39 23),[(0,.ls (.tf 1 (.tp (.ti .i32) K72c5))),(1,.ls (.tf 2 (.tp (.ti .i32) K72c5))),(2,.ls (.ti .i32))],[(1004,0,.h (.ti .i64)),(1004,1,.h (.ti .i64)),(1004,2,.rww 0 1),(1004,3,.rww 1 1),(1004,4,.h (.ti .i64)),(1004,5,.h (.ti .i64)),(1004,6,.h .tb),(1004,7,.h (.ti .i64)),(1004,8,.h (.ti .i64)),(1004,9,.h (.ti .i64)),(1004,10,.h (.ti .i64)),(1004,11,.h (.ti .i64)),(1004,12,.h (.ti .i64)),(1004,13,.h (.ti .i64)),(1004,14,.h (.ti .i64)),(1004,15,.h (.ti .i64)),(1004,16,.h (.ti .i64)),(1004,17,.h (.ti .i64)),(1004,18,.h .tb),(1004,19,.h .tb),(1004,20,.h (.ti .i64)),(1004,21,.h (.ti .i64)),(1004,22,.h (.ti .i64)),(1004,23,.h (.ti .i64)),(1004,24,.h (.ti .i64)),(1004,25,.h .tb),(1004,26,.h .tb),(1004,27,.h (.ti .u64)),(1004,28,.h (.ti .u64)),(1004,29,.h (.ti .u64)),(1004,30,.h (.ti .u64)),(1004,31,.rww 2 1)],[1005,1006,1007]⟩ [(.exit 0,⟨[],([7,20,23,26] ++ rg 38 24),[(0,.ls (.tf 1 (.tp (.ti .i32) K72c5))),(1,.ls (.tf 2 (.tp (.ti .i32) K72c5))),(2,.ls (.ti .i32))],[(1004,0,.h (.ti .i64)),(1004,1,.h (.ti .i64)),(1004,2,.rww 0 1),(1004,3,.rww 1 1),(1004,4,.h (.ti .i64)),(1004,5,.h (.ti .i64)),(1004,6,.h .tb),(1004,7,.h (.ti .i64)),(1004,8,.h (.ti .i64)),(1004,9,.h (.ti .i64)),(1004,10,.h (.ti .i64)),(1004,11,.h (.ti .i64)),(1004,12,.h (.ti .i64)),(1004,13,.h (.ti .i64)),(1004,14,.h (.ti .i64)),(1004,15,.h (.ti .i64)),(1004,16,.h (.ti .i64)),(1004,17,.h (.ti .i64)),(1004,18,.h .tb),(1004,19,.h .tb),(1004,20,.h (.ti .i64)),(1004,21,.h (.ti .i64)),(1004,22,.h (.ti .i64)),(1004,23,.h (.ti .i64)),(1004,24,.h (.ti .i64)),(1004,25,.h .tb),(1004,26,.h .tb),(1004,27,.h (.ti .u64)),(1004,28,.h (.ti .u64)),(1004,29,.h (.ti .u64)),(1004,30,.h (.ti .u64)),(1004,31,.rww 2 1)],[1005,1006,1007]⟩)] (.join ⟨[(39,.h .tb)],[],[],[],[]⟩ (.reg [(0,{split:=true})]) (.seq .leaf (.seq (.blk (.seq .leaf (.join ⟨[],(rg 42 16),[],[(1008,1,.h (.ti .i64)),(1008,2,.h (.ti .i64))],[]⟩ (.join ⟨[(49,.h .tb)],(rg 42 7),[],[],[]⟩ (.reg [(3,{split:=true}),(7,{split:=true})]) (.cond (.reg [(2,{con:=1}),(5,{con:=1})]) .leaf)) (.reg [(2,{io:=some 3,wk:=true})])))) .leaf)))))) .leaf))))) [.st (.tp (.ti .i64) (.tp (.ti .i64) K05d1)),.h (.tl K86d9)] (.st (.tp (.ti .i64) (.tp (.ti .i64) K05d1))) a [1000,1001] = screen_Do a.1 a.2:=by kernel_rfl
noncomputable def screen_Do_c:PCon En:=⟨10,[.st (.tp (.ti .i64) (.tp (.ti .i64) K05d1)),.h (.tl K86d9)],.st (.tp (.ti .i64) (.tp (.ti .i64) K05d1)),fun a=>screen_Do a.1 a.2,Tryd.call10,fun a v h=>DF_ok rfl En_mixed rfl En_ok Tryd.func10 rfl rfl (by decide) ((screen_Do_dq a).trans h)⟩
theorem orielref15_Text_dq (a:HT (Sh.hss [.h (.tl (.tp (.ti .i32) K72c5))])):DF En GT noC Tryd.f24.ntmps Tryd.f24.results.toList (bodyOf Tryd.f24) (.seq .leaf (.seq .leaf (.seq (.blk (.loop ⟨[(3,.h (.ti .i64))],(rg 9 32),[],[],[]⟩ [(.exit 0,⟨[(3,.h (.ti .i64))],(rg 9 32),[],[],[]⟩)] (.seq (.join ⟨[(38,.h .tb)],(rg 9 29),[],[],[]⟩ (.reg [(2,{split:=true}),(11,{split:=true}),(20,{split:=true}),(29,{split:=true})]) .leaf) .leaf))) (.seq .leaf (.seq (.seq .leaf (.blk (.loop ⟨[(4,.rww 0 1),(5,.h (.ti .i64))],([6] ++ rg 41 41),[(0,.ls (.ti .i32))],[],[]⟩ [(.exit 2,⟨[(4,.rww 0 1)],([5,6] ++ rg 41 41),[(0,.ls (.ti .i32))],[],[]⟩)] (.seq (.join ⟨[(43,.h .tb)],[41,42],[],[],[]⟩ (.reg [(2,{split:=true})]) .leaf) (.join ⟨[(4,.rww 1 1)],([6] ++ rg 46 36),[(1,.ls (.ti .i32))],[],[0]⟩ (.blk (.seq (.join ⟨[(51,.h .tb)],[46,47,48,49,50],[],[],[]⟩ (.reg [(5,{split:=true})]) .leaf) (.seq .leaf (.seq .leaf (.blk (.loop ⟨[(4,.rww 3 1),(6,.h (.ti .i64))],(rg 59 23),[(3,.ls (.ti .i32))],[],[2]⟩ [(.exit 4,⟨[(4,.rww 3 1)],([6] ++ rg 59 23),[(3,.ls (.ti .i32))],[],[2]⟩)] (.seq (.join ⟨[(61,.h .tb)],[60],[],[],[]⟩ (.reg [(1,{split:=true})]) .leaf) (.join ⟨[(4,.rww 4 1)],(rg 64 18),[(4,.ls (.ti .i32))],[],[3]⟩ (.blk (.join ⟨[(71,.h .tb)],(rg 64 7),[],[],[]⟩ (.reg [(5,{sel:=true}),(7,{split:=true})]) (.cond (.reg [(6,{sel:=true})]) .leaf))) .leaf)))))))) .leaf))))) .leaf))))) [.h (.tl (.tp (.ti .i32) K72c5))] (.h (.tl (.ti .i32))) a = orielref15_Text a:=by kernel_rfl
noncomputable def orielref15_Text_c:PCon En:=⟨24,[.h (.tl (.tp (.ti .i32) K72c5))],.h (.tl (.ti .i32)),fun a=>orielref15_Text a,Tryd.call24,fun a v h=>DF_ok rfl En_mixed rfl En_ok Tryd.func24 rfl rfl (by decide) ((orielref15_Text_dq a).trans h)⟩
theorem oriellaw17_shows_dq (a:HT (Sh.hss [.st (.tp (.ti .i64) (.tp (.ti .i64) K05d1)),.h (.ti .i64),.h (.ti .i64),.h .tb,.h (.tl .ts)])):DF En GT (cl [orielref15_Text_c] []) Tryd.f12.ntmps Tryd.f12.results.toList (bodyOf Tryd.f12) (.seq .leaf (.seq (.join ⟨[(35,.h .tb)],(rg 12 23),[],[],[]⟩ (.reg [(6,{split:=true}),(12,{split:=true}),(18,{split:=true}),(23,{split:=true})]) .leaf) (.seq (.seq .leaf (.blk (.loop ⟨[(11,.h (.ti .i64))],(rg 36 18),[],[],[]⟩ [(.ret,⟨[(10,.k (.bool false))],([11] ++ rg 36 18),[],[],[]⟩),(.exit 0,⟨[],([11] ++ rg 36 18),[],[],[]⟩)] (.seq (.join ⟨[(39,.h .tb)],[36,37,38],[],[],[]⟩ (.reg [(3,{split:=true})]) .leaf) (.seq (.blk (.join ⟨[(53,.h .tb)],(rg 42 11),[],[],[]⟩ (.reg [(5,{con:=0}),(11,{split:=true})]) .leaf)) .leaf))))) .leaf))) [.st (.tp (.ti .i64) (.tp (.ti .i64) K05d1)),.h (.ti .i64),.h (.ti .i64),.h .tb,.h (.tl .ts)] (.h .tb) a = oriellaw17_shows a.1 a.2.1 a.2.2.1 a.2.2.2.1 a.2.2.2.2:=by kernel_rfl
noncomputable def oriellaw17_shows_c:PCon En:=⟨12,[.st (.tp (.ti .i64) (.tp (.ti .i64) K05d1)),.h (.ti .i64),.h (.ti .i64),.h .tb,.h (.tl .ts)],.h .tb,fun a=>oriellaw17_shows a.1 a.2.1 a.2.2.1 a.2.2.2.1 a.2.2.2.2,Tryd.call12,fun a v h=>DF_ok rfl En_mixed rfl En_ok Tryd.func12 rfl rfl (by decide) ((oriellaw17_shows_dq a).trans h)⟩
theorem oriellaw17_typed_dq (a:HT (Sh.hss [.h (.ti .i64),.h (.ti .i64),.h (.tl (.ti .i32))])):DF En GT (cl [screen_New_c,screen_Do_c] []) Tryd.f11.ntmps Tryd.f11.results.toList (bodyOf Tryd.f11) (.seq .leaf (.seq (.reg [(2,{con:=0})]) (.seq (.join ⟨[(17,.h .tb)],[16],[],[],[]⟩ (.reg [(1,{split:=true})]) .leaf) (.seq (.seq .leaf (.blk (.loop ⟨[(9,.h (.ti .i64))],(rg 19 14),[],[(1,0,.h (.ti .i64)),(1,1,.h (.ti .i64)),(1,2,.h (.tl (.tl (.tp (.ti .i32) K72c5)))),(1,3,.h (.tl (.tl (.tp (.ti .i32) K72c5)))),(1,4,.h (.ti .i64)),(1,5,.h (.ti .i64)),(1,6,.h .tb),(1,7,.h (.ti .i64)),(1,8,.h (.ti .i64)),(1,9,.h (.ti .i64)),(1,10,.h (.ti .i64)),(1,11,.h (.ti .i64)),(1,12,.h (.ti .i64)),(1,13,.h (.ti .i64)),(1,14,.h (.ti .i64)),(1,15,.h (.ti .i64)),(1,16,.h (.ti .i64)),(1,17,.h (.ti .i64)),(1,18,.h .tb),(1,19,.h .tb),(1,20,.h (.ti .i64)),(1,21,.h (.ti .i64)),(1,22,.h (.ti .i64)),(1,23,.h (.ti .i64)),(1,24,.h (.ti .i64)),(1,25,.h .tb),(1,26,.h .tb),(1,27,.h (.ti .u64)),(1,28,.h (.ti .u64)),(1,29,.h (.ti .u64)),(1,30,.h (.ti .u64)),(1,31,.h (.tl (.ti .i32)))],[]⟩ [(.exit 0,⟨[],([9] ++ rg 19 14),[],[(1,0,.h (.ti .i64)),(1,1,.h (.ti .i64)),(1,2,.h (.tl (.tl (.tp (.ti .i32) K72c5)))),(1,3,.h (.tl (.tl (.tp (.ti .i32) K72c5)))),(1,4,.h (.ti .i64)),(1,5,.h (.ti .i64)),(1,6,.h .tb),(1,7,.h (.ti .i64)),(1,8,.h (.ti .i64)),(1,9,.h (.ti .i64)),(1,10,.h (.ti .i64)),(1,11,.h (.ti .i64)),(1,12,.h (.ti .i64)),(1,13,.h (.ti .i64)),(1,14,.h (.ti .i64)),(1,15,.h (.ti .i64)),(1,16,.h (.ti .i64)),(1,17,.h (.ti .i64)),(1,18,.h .tb),(1,19,.h .tb),(1,20,.h (.ti .i64)),(1,21,.h (.ti .i64)),(1,22,.h (.ti .i64)),(1,23,.h (.ti .i64)),(1,24,.h (.ti .i64)),(1,25,.h .tb),(1,26,.h .tb),(1,27,.h (.ti .u64)),(1,28,.h (.ti .u64)),(1,29,.h (.ti .u64)),(1,30,.h (.ti .u64)),(1,31,.h (.tl (.ti .i32)))],[]⟩)] (.seq (.join ⟨[(22,.h .tb)],[19,20,21],[],[],[]⟩ (.reg [(3,{split:=true})]) .leaf) (.seq (.blk (.reg [(7,{fz:=[(31,K86d9)],con:=1})])) .leaf))))) .leaf)))) [.h (.ti .i64),.h (.ti .i64),.h (.tl (.ti .i32))] (.st (.tp (.ti .i64) (.tp (.ti .i64) K05d1))) a = oriellaw17_typed a.1 a.2.1 a.2.2:=by kernel_rfl
noncomputable def oriellaw17_typed_c:PCon En:=⟨11,[.h (.ti .i64),.h (.ti .i64),.h (.tl (.ti .i32))],.st (.tp (.ti .i64) (.tp (.ti .i64) K05d1)),fun a=>oriellaw17_typed a.1 a.2.1 a.2.2,Tryd.call11,fun a v h=>DF_ok rfl En_mixed rfl En_ok Tryd.func11 rfl rfl (by decide) ((oriellaw17_typed_dq a).trans h)⟩
theorem oriellaw17_known_dq (a:HT (Sh.hss [])):DF En GT (cl [oriellaw17_typed_c,screen_Do_c,oriellaw17_shows_c] []) Tryd.f13.ntmps Tryd.f13.results.toList (bodyOf Tryd.f13) (.seq .leaf (.seq (.reg [(1,{fz:=[(6,.ti .i32)],con:=0})]) (.seq (.reg [(3,{fz:=[(10,K86d9)],con:=1})]) (.seq (.reg [(3,{fz:=[(14,K86d9)],con:=1})]) (.seq (.reg [(1,{fz:=[(16,.ti .i32)],con:=0})]) (.seq (.reg [(3,{fz:=[(20,K86d9)],con:=1})]) (.seq (.reg [(2,{con:=2}),(3,{split:=true}),(6,{con:=2}),(8,{split:=true}),(11,{con:=2}),(13,{split:=true}),(16,{con:=2}),(18,{split:=true}),(21,{con:=2})]) .leaf))))))) [] (.h .tb) a = oriellaw17_known_raw:=by kernel_rfl
noncomputable def oriellaw17_known_c:PCon En:=⟨13,[],.h .tb,fun a=>oriellaw17_known,Tryd.call13,fun a v h=>DF_ok rfl En_mixed rfl En_ok Tryd.func13 rfl rfl (by decide) ((oriellaw17_known_dq a).trans (oriellaw17_known_law  h))⟩
theorem oriellaw17_great_dq (a:HT (Sh.hss [.h (.ti .i64),.h (.ti .i64),.h (.tl K86d9)])):DF En GT noC Tryd.f14.ntmps Tryd.f14.results.toList (bodyOf Tryd.f14) (.seq .leaf (.seq (.join ⟨[(27,.h .tb)],(rg 9 18),[],[],[]⟩ (.reg [(2,{split:=true}),(6,{split:=true}),(9,{split:=true}),(14,{split:=true}),(18,{split:=true})]) .leaf) (.seq .leaf (.seq (.seq .leaf (.blk (.loop ⟨[(7,.h (.ti .i64)),(8,.h (.ti .i64))],(rg 28 64),[],[],[]⟩ [(.ret,⟨[(6,.k (.bool true))],([7,8] ++ rg 28 64),[],[],[]⟩),(.exit 0,⟨[(7,.h (.ti .i64))],([8] ++ rg 28 64),[],[],[]⟩)] (.seq (.join ⟨[(31,.h .tb)],[28,29,30],[],[],[]⟩ (.reg [(3,{split:=true})]) .leaf) (.seq (.blk (.seq (.join ⟨[(73,.h .tb)],(rg 34 39),[],[],[]⟩ (.reg [(7,{split:=true}),(16,{split:=true}),(23,{split:=true}),(30,{split:=true}),(39,{split:=true})]) .leaf) (.join ⟨[(7,.h (.ti .i64))],(rg 74 16),[],[],[]⟩ (.join ⟨[(87,.h .tb)],(rg 74 13),[],[],[]⟩ (.reg [(6,{split:=true}),(13,{split:=true})]) .leaf) .leaf))) .leaf))))) .leaf)))) [.h (.ti .i64),.h (.ti .i64),.h (.tl K86d9)] (.h .tb) a = oriellaw17_great a.1 a.2.1 a.2.2:=by kernel_rfl
noncomputable def oriellaw17_great_c:PCon En:=⟨14,[.h (.ti .i64),.h (.ti .i64),.h (.tl K86d9)],.h .tb,fun a=>oriellaw17_great a.1 a.2.1 a.2.2,Tryd.call14,fun a v h=>DF_ok rfl En_mixed rfl En_ok Tryd.func14 rfl rfl (by decide) ((oriellaw17_great_dq a).trans h)⟩
theorem slices_Equal_c00_dq (a:HT (Sh.hss [.h (.tl (.tp (.ti .i32) K72c5)),.h (.tl (.tp (.ti .i32) K72c5))])):DF En GT noC Tryd.f27.ntmps Tryd.f27.results.toList (bodyOf Tryd.f27) (.seq .leaf (.seq (.join ⟨[(10,.h .tb)],[6,7,8,9],[],[],[]⟩ (.reg [(4,{split:=true})]) .leaf) (.seq (.seq .leaf (.blk (.loop ⟨[(13,.h (.ti .i64))],([5] ++ rg 14 12),[],[],[]⟩ [(.ret,⟨[(4,.k (.bool false))],([5] ++ rg 13 13),[],[],[]⟩),(.exit 0,⟨[],([5] ++ rg 13 13),[],[],[]⟩)] (.join ⟨[(14,.h .tb)],[],[],[],[]⟩ (.reg [(0,{split:=true})]) (.seq .leaf (.seq (.blk (.seq .leaf (.join ⟨[(24,.h .tb)],(rg 16 8),[],[],[]⟩ (.reg [(8,{split:=true})]) .leaf))) .leaf)))))) .leaf))) [.h (.tl (.tp (.ti .i32) K72c5)),.h (.tl (.tp (.ti .i32) K72c5))] (.h .tb) a = slices_Equal_c00 a.1 a.2:=by kernel_rfl
noncomputable def slices_Equal_c00_c:PCon En:=⟨27,[.h (.tl (.tp (.ti .i32) K72c5)),.h (.tl (.tp (.ti .i32) K72c5))],.h .tb,fun a=>slices_Equal_c00 a.1 a.2,Tryd.call27,fun a v h=>DF_ok rfl En_mixed rfl En_ok Tryd.func27 rfl rfl (by decide) ((slices_Equal_c00_dq a).trans h)⟩
theorem grid_Same_1_dq (a:HT (Sh.hss [.h (.tl (.tp (.ti .i32) K72c5)),.h (.tl (.tp (.ti .i32) K72c5))])):DF En GT (cl [slices_Equal_c00_c] []) Tryd.f26.ntmps Tryd.f26.results.toList (bodyOf Tryd.f26) (.seq .leaf (.seq (.reg [(2,{con:=0})]) .leaf)) [.h (.tl (.tp (.ti .i32) K72c5)),.h (.tl (.tp (.ti .i32) K72c5))] (.h .tb) a = grid_Same_1 a.1 a.2:=by kernel_rfl
noncomputable def grid_Same_1_c:PCon En:=⟨26,[.h (.tl (.tp (.ti .i32) K72c5)),.h (.tl (.tp (.ti .i32) K72c5))],.h .tb,fun a=>grid_Same_1 a.1 a.2,Tryd.call26,fun a v h=>DF_ok rfl En_mixed rfl En_ok Tryd.func26 rfl rfl (by decide) ((grid_Same_1_dq a).trans h)⟩
theorem slices_EqualFunc_940_dq (a:HT (Sh.hss [.h (.tl (.tl (.tp (.ti .i32) K72c5))),.h (.tl (.tl (.tp (.ti .i32) K72c5))),.fn 26 []])):DF En GT (cl [grid_Same_1_c] []) Tryd.f25.ntmps Tryd.f25.results.toList (bodyOf Tryd.f25) (.seq .leaf (.seq (.join ⟨[(14,.h .tb)],[10,11,12,13],[],[],[]⟩ (.reg [(4,{split:=true})]) .leaf) (.seq (.seq .leaf (.blk (.loop ⟨[(17,.h (.ti .i64))],([7,8,9] ++ rg 18 14),[],[],[]⟩ [(.ret,⟨[(6,.k (.bool false))],([7,8,9] ++ rg 17 15),[],[],[]⟩),(.exit 0,⟨[],([7,8,9] ++ rg 17 15),[],[],[]⟩)] (.join ⟨[(18,.h .tb)],[],[],[],[]⟩ (.reg [(0,{split:=true})]) (.seq .leaf (.seq (.blk (.seq .leaf (.seq .leaf (.join ⟨[(30,.h .tb)],[26,27,28,29],[],[],[]⟩ (.reg [(3,{con:=0}),(4,{split:=true})]) .leaf)))) .leaf)))))) .leaf))) [.h (.tl (.tl (.tp (.ti .i32) K72c5))),.h (.tl (.tl (.tp (.ti .i32) K72c5))),.fn 26 []] (.h .tb) a = slices_EqualFunc_940 a.1 a.2:=by kernel_rfl
noncomputable def slices_EqualFunc_940_c:PCon En:=⟨25,[.h (.tl (.tl (.tp (.ti .i32) K72c5))),.h (.tl (.tl (.tp (.ti .i32) K72c5))),.fn 26 []],.h .tb,fun a=>slices_EqualFunc_940 a.1 a.2,Tryd.call25,fun a v h=>DF_ok rfl En_mixed rfl En_ok Tryd.func25 rfl rfl (by decide) ((slices_EqualFunc_940_dq a).trans h)⟩
theorem grid_Same_dq (a:HT (Sh.hss [.h (.tl (.tl (.tl (.tp (.ti .i32) K72c5))))])):DF En GT (cl [slices_EqualFunc_940_c] []) Tryd.f15.ntmps Tryd.f15.results.toList (bodyOf Tryd.f15) (.seq .leaf (.seq (.seq .leaf (.blk (.loop ⟨[(3,.h (.ti .i64))],(rg 4 15),[],[],[]⟩ [(.ret,⟨[(2,.k (.bool false))],(rg 3 16),[],[],[]⟩),(.exit 0,⟨[],(rg 3 16),[],[],[]⟩)] (.seq (.join ⟨[(7,.h .tb)],[4,5,6],[],[],[]⟩ (.reg [(3,{split:=true})]) .leaf) (.seq (.blk (.join ⟨[(18,.h .tb)],(rg 10 8),[],[],[]⟩ (.reg [(7,{con:=0}),(8,{split:=true})]) .leaf)) .leaf))))) .leaf)) [.h (.tl (.tl (.tl (.tp (.ti .i32) K72c5))))] (.h .tb) a = grid_Same a:=by kernel_rfl
noncomputable def grid_Same_c:PCon En:=⟨15,[.h (.tl (.tl (.tl (.tp (.ti .i32) K72c5))))],.h .tb,fun a=>grid_Same a,Tryd.call15,fun a v h=>DF_ok rfl En_mixed rfl En_ok Tryd.func15 rfl rfl (by decide) ((grid_Same_dq a).trans h)⟩
theorem slices_Equal_e9e_dq (a:HT (Sh.hss [.h (.tl (.ti .i32)),.h (.tl (.ti .i32))])):DF En GT noC Tryd.f35.ntmps Tryd.f35.results.toList (bodyOf Tryd.f35) (.seq .leaf (.seq (.join ⟨[(10,.h .tb)],[6,7,8,9],[],[],[]⟩ (.reg [(4,{split:=true})]) .leaf) (.seq (.seq .leaf (.blk (.loop ⟨[(13,.h (.ti .i64))],([5] ++ rg 14 12),[],[],[]⟩ [(.ret,⟨[(4,.k (.bool false))],([5] ++ rg 13 13),[],[],[]⟩),(.exit 0,⟨[],([5] ++ rg 13 13),[],[],[]⟩)] (.join ⟨[(14,.h .tb)],[],[],[],[]⟩ (.reg [(0,{split:=true})]) (.seq .leaf (.seq (.blk (.seq .leaf (.join ⟨[(24,.h .tb)],(rg 16 8),[],[],[]⟩ (.reg [(8,{split:=true})]) .leaf))) .leaf)))))) .leaf))) [.h (.tl (.ti .i32)),.h (.tl (.ti .i32))] (.h .tb) a = slices_Equal_e9e a.1 a.2:=by kernel_rfl
noncomputable def slices_Equal_e9e_c:PCon En:=⟨35,[.h (.tl (.ti .i32)),.h (.tl (.ti .i32))],.h .tb,fun a=>slices_Equal_e9e a.1 a.2,Tryd.call35,fun a v h=>DF_ok rfl En_mixed rfl En_ok Tryd.func35 rfl rfl (by decide) ((slices_Equal_e9e_dq a).trans h)⟩
theorem screen_Same_dq (a:HT (Sh.hss [.st (.tp (.ti .i64) (.tp (.ti .i64) K05d1)),.st (.tp (.ti .i64) (.tp (.ti .i64) K05d1))])):DF En GT (cl [grid_Same_c,slices_Equal_e9e_c] []) Tryd.f18.ntmps Tryd.f18.results.toList (bodyOf Tryd.f18) (.seq .leaf (.seq (.join ⟨[(28,.h .tb)],(rg 5 23),[],[],[]⟩ (.reg [(5,{con:=0}),(7,{split:=true}),(13,{con:=0}),(16,{split:=true}),(21,{con:=1}),(23,{split:=true})]) .leaf) (.seq (.reg [(5,{split:=true}),(12,{split:=true}),(19,{split:=true}),(26,{split:=true}),(33,{split:=true}),(40,{split:=true}),(47,{split:=true}),(54,{split:=true}),(61,{split:=true}),(68,{split:=true})]) .leaf))) [.st (.tp (.ti .i64) (.tp (.ti .i64) K05d1)),.st (.tp (.ti .i64) (.tp (.ti .i64) K05d1))] (.h .tb) a = screen_Same a.1 a.2:=by kernel_rfl
noncomputable def screen_Same_c:PCon En:=⟨18,[.st (.tp (.ti .i64) (.tp (.ti .i64) K05d1)),.st (.tp (.ti .i64) (.tp (.ti .i64) K05d1))],.h .tb,fun a=>screen_Same a.1 a.2,Tryd.call18,fun a v h=>DF_ok rfl En_mixed rfl En_ok Tryd.func18 rfl rfl (by decide) ((screen_Same_dq a).trans h)⟩
theorem oriellaw17_ScreenPages_dq (a:HT (Sh.hss [.h (.ti .i64),.h (.ti .i64),.h (.tl K86d9),.h (.tl K86d9)])):DF En GT (cl [oriellaw17_known_c,oriellaw17_great_c,screen_New_c,screen_Do_c,screen_Same_c] []) Tryd.f7.ntmps Tryd.f7.results.toList (bodyOf Tryd.f7) (.seq .leaf (.seq (.join ⟨[(17,.h .tb)],[16],[],[],[]⟩ (.reg [(0,{con:=0}),(1,{split:=true})]) .leaf) (.seq (.join ⟨[(53,.h .tb)],(rg 18 35),[],[],[]⟩ (.reg [(2,{split:=true}),(6,{split:=true}),(10,{split:=true}),(14,{split:=true}),(18,{con:=1}),(20,{split:=true}),(24,{con:=1}),(26,{split:=true}),(31,{split:=true}),(35,{split:=true})]) .leaf) (.seq (.reg [(2,{con:=2})]) (.seq (.join ⟨[(61,.h .tb)],[60],[],[],[]⟩ (.reg [(1,{split:=true})]) .leaf) (.seq (.seq .leaf (.blk (.loop ⟨[(11,.h (.ti .i64))],(rg 62 27),[],[(0,0,.h (.ti .i64)),(0,1,.h (.ti .i64)),(0,2,.h (.tl (.tl (.tp (.ti .i32) K72c5)))),(0,3,.h (.tl (.tl (.tp (.ti .i32) K72c5)))),(0,4,.h (.ti .i64)),(0,5,.h (.ti .i64)),(0,6,.h .tb),(0,7,.h (.ti .i64)),(0,8,.h (.ti .i64)),(0,9,.h (.ti .i64)),(0,10,.h (.ti .i64)),(0,11,.h (.ti .i64)),(0,12,.h (.ti .i64)),(0,13,.h (.ti .i64)),(0,14,.h (.ti .i64)),(0,15,.h (.ti .i64)),(0,16,.h (.ti .i64)),(0,17,.h (.ti .i64)),(0,18,.h .tb),(0,19,.h .tb),(0,20,.h (.ti .i64)),(0,21,.h (.ti .i64)),(0,22,.h (.ti .i64)),(0,23,.h (.ti .i64)),(0,24,.h (.ti .i64)),(0,25,.h .tb),(0,26,.h .tb),(0,27,.h (.ti .u64)),(0,28,.h (.ti .u64)),(0,29,.h (.ti .u64)),(0,30,.h (.ti .u64)),(0,31,.h (.tl (.ti .i32)))],[]⟩ [(.ret,⟨[(8,.k (.bool true))],([11] ++ rg 62 27),[],[(0,0,.h (.ti .i64)),(0,1,.h (.ti .i64)),(0,2,.h (.tl (.tl (.tp (.ti .i32) K72c5)))),(0,3,.h (.tl (.tl (.tp (.ti .i32) K72c5)))),(0,4,.h (.ti .i64)),(0,5,.h (.ti .i64)),(0,6,.h .tb),(0,7,.h (.ti .i64)),(0,8,.h (.ti .i64)),(0,9,.h (.ti .i64)),(0,10,.h (.ti .i64)),(0,11,.h (.ti .i64)),(0,12,.h (.ti .i64)),(0,13,.h (.ti .i64)),(0,14,.h (.ti .i64)),(0,15,.h (.ti .i64)),(0,16,.h (.ti .i64)),(0,17,.h (.ti .i64)),(0,18,.h .tb),(0,19,.h .tb),(0,20,.h (.ti .i64)),(0,21,.h (.ti .i64)),(0,22,.h (.ti .i64)),(0,23,.h (.ti .i64)),(0,24,.h (.ti .i64)),(0,25,.h .tb),(0,26,.h .tb),(0,27,.h (.ti .u64)),(0,28,.h (.ti .u64)),(0,29,.h (.ti .u64)),(0,30,.h (.ti .u64)),(0,31,.h (.tl (.ti .i32)))],[]⟩),(.exit 0,⟨[],([11] ++ rg 62 27),[],[(0,0,.h (.ti .i64)),(0,1,.h (.ti .i64)),(0,2,.h (.tl (.tl (.tp (.ti .i32) K72c5)))),(0,3,.h (.tl (.tl (.tp (.ti .i32) K72c5)))),(0,4,.h (.ti .i64)),(0,5,.h (.ti .i64)),(0,6,.h .tb),(0,7,.h (.ti .i64)),(0,8,.h (.ti .i64)),(0,9,.h (.ti .i64)),(0,10,.h (.ti .i64)),(0,11,.h (.ti .i64)),(0,12,.h (.ti .i64)),(0,13,.h (.ti .i64)),(0,14,.h (.ti .i64)),(0,15,.h (.ti .i64)),(0,16,.h (.ti .i64)),(0,17,.h (.ti .i64)),(0,18,.h .tb),(0,19,.h .tb),(0,20,.h (.ti .i64)),(0,21,.h (.ti .i64)),(0,22,.h (.ti .i64)),(0,23,.h (.ti .i64)),(0,24,.h (.ti .i64)),(0,25,.h .tb),(0,26,.h .tb),(0,27,.h (.ti .u64)),(0,28,.h (.ti .u64)),(0,29,.h (.ti .u64)),(0,30,.h (.ti .u64)),(0,31,.h (.tl (.ti .i32)))],[]⟩)] (.seq (.join ⟨[(65,.h .tb)],[62,63,64],[],[],[]⟩ (.reg [(3,{split:=true})]) .leaf) (.seq (.blk (.seq (.join ⟨[(81,.h .tb)],(rg 68 13),[],[],[]⟩ (.reg [(6,{split:=true}),(13,{split:=true})]) .leaf) (.reg [(6,{fz:=[(87,K86d9)],con:=3})]))) .leaf))))) (.seq (.reg [(3,{fz:=[(91,K86d9)],con:=3})]) (.seq (.join ⟨[(106,.h .tb)],(rg 93 13),[],[],[]⟩ (.reg [(6,{split:=true}),(13,{split:=true})]) .leaf) (.seq (.seq .leaf (.blk (.loop ⟨[(13,.h (.ti .i64))],(rg 107 43),[],[(2,0,.h (.ti .i64)),(2,1,.h (.ti .i64)),(2,2,.h (.tl (.tl (.tp (.ti .i32) K72c5)))),(2,3,.h (.tl (.tl (.tp (.ti .i32) K72c5)))),(2,4,.h (.ti .i64)),(2,5,.h (.ti .i64)),(2,6,.h .tb),(2,7,.h (.ti .i64)),(2,8,.h (.ti .i64)),(2,9,.h (.ti .i64)),(2,10,.h (.ti .i64)),(2,11,.h (.ti .i64)),(2,12,.h (.ti .i64)),(2,13,.h (.ti .i64)),(2,14,.h (.ti .i64)),(2,15,.h (.ti .i64)),(2,16,.h (.ti .i64)),(2,17,.h (.ti .i64)),(2,18,.h .tb),(2,19,.h .tb),(2,20,.h (.ti .i64)),(2,21,.h (.ti .i64)),(2,22,.h (.ti .i64)),(2,23,.h (.ti .i64)),(2,24,.h (.ti .i64)),(2,25,.h .tb),(2,26,.h .tb),(2,27,.h (.ti .u64)),(2,28,.h (.ti .u64)),(2,29,.h (.ti .u64)),(2,30,.h (.ti .u64)),(2,31,.h (.tl (.ti .i32)))],[]⟩ [(.ret,⟨[(8,.k (.bool true))],([13] ++ rg 107 43),[],[(2,0,.h (.ti .i64)),(2,1,.h (.ti .i64)),(2,2,.h (.tl (.tl (.tp (.ti .i32) K72c5)))),(2,3,.h (.tl (.tl (.tp (.ti .i32) K72c5)))),(2,4,.h (.ti .i64)),(2,5,.h (.ti .i64)),(2,6,.h .tb),(2,7,.h (.ti .i64)),(2,8,.h (.ti .i64)),(2,9,.h (.ti .i64)),(2,10,.h (.ti .i64)),(2,11,.h (.ti .i64)),(2,12,.h (.ti .i64)),(2,13,.h (.ti .i64)),(2,14,.h (.ti .i64)),(2,15,.h (.ti .i64)),(2,16,.h (.ti .i64)),(2,17,.h (.ti .i64)),(2,18,.h .tb),(2,19,.h .tb),(2,20,.h (.ti .i64)),(2,21,.h (.ti .i64)),(2,22,.h (.ti .i64)),(2,23,.h (.ti .i64)),(2,24,.h (.ti .i64)),(2,25,.h .tb),(2,26,.h .tb),(2,27,.h (.ti .u64)),(2,28,.h (.ti .u64)),(2,29,.h (.ti .u64)),(2,30,.h (.ti .u64)),(2,31,.h (.tl (.ti .i32)))],[]⟩),(.exit 2,⟨[],([13] ++ rg 107 43),[],[(2,0,.h (.ti .i64)),(2,1,.h (.ti .i64)),(2,2,.h (.tl (.tl (.tp (.ti .i32) K72c5)))),(2,3,.h (.tl (.tl (.tp (.ti .i32) K72c5)))),(2,4,.h (.ti .i64)),(2,5,.h (.ti .i64)),(2,6,.h .tb),(2,7,.h (.ti .i64)),(2,8,.h (.ti .i64)),(2,9,.h (.ti .i64)),(2,10,.h (.ti .i64)),(2,11,.h (.ti .i64)),(2,12,.h (.ti .i64)),(2,13,.h (.ti .i64)),(2,14,.h (.ti .i64)),(2,15,.h (.ti .i64)),(2,16,.h (.ti .i64)),(2,17,.h (.ti .i64)),(2,18,.h .tb),(2,19,.h .tb),(2,20,.h (.ti .i64)),(2,21,.h (.ti .i64)),(2,22,.h (.ti .i64)),(2,23,.h (.ti .i64)),(2,24,.h (.ti .i64)),(2,25,.h .tb),(2,26,.h .tb),(2,27,.h (.ti .u64)),(2,28,.h (.ti .u64)),(2,29,.h (.ti .u64)),(2,30,.h (.ti .u64)),(2,31,.h (.tl (.ti .i32)))],[]⟩)] (.seq (.join ⟨[(110,.h .tb)],[107,108,109],[],[],[]⟩ (.reg [(3,{split:=true})]) .leaf) (.seq (.blk (.seq (.join ⟨[(142,.h .tb)],(rg 113 29),[],[],[]⟩ (.reg [(6,{split:=true}),(14,{split:=true}),(21,{split:=true}),(29,{split:=true})]) .leaf) (.reg [(6,{fz:=[(148,K86d9)],con:=3})]))) .leaf))))) (.seq (.reg [(3,{fz:=[(152,K86d9)],con:=3})]) (.seq .leaf (.seq .leaf (.seq .leaf (.seq .leaf (.seq .leaf (.seq .leaf (.seq .leaf (.seq (.reg [(5,{split:=true}),(11,{split:=true}),(20,{split:=true}),(23,{con:=4})]) .leaf)))))))))))))))))) [.h (.ti .i64),.h (.ti .i64),.h (.tl K86d9),.h (.tl K86d9)] (.h .tb) a = oriellaw17_ScreenPages a.1 a.2.1 a.2.2.1 a.2.2.2:=by kernel_rfl
noncomputable def oriellaw17_ScreenPages_c:PCon En:=⟨7,[.h (.ti .i64),.h (.ti .i64),.h (.tl K86d9),.h (.tl K86d9)],.h .tb,fun a=>oriellaw17_ScreenPages a.1 a.2.1 a.2.2.1 a.2.2.2,Tryd.call7,fun a v h=>DF_ok rfl En_mixed rfl En_ok Tryd.func7 rfl rfl (by decide) ((oriellaw17_ScreenPages_dq a).trans h)⟩
end Go.SH
namespace Go.SH
open Go.RowKit
/-- Arguments that nobody writes. -/
def av0:Nat → Prop:=avo (fun _=>False) sig0 []
theorem av0_no (β:Nat):¬ av0 β:=by
  rintro (h | h)
  · exact h
  · exact avz h
/-- A law's run: it answers true, and what was there stays. -/
theorem law_calls {E:Env} {f:FuncId} {args:List PV} (h:Pure E f args (.bool true)) (w:World) (cargs:Array Value) (hl:cargs.size = args.length)
    (hv:∀ (i:Nat) (x:PV) (u:Value),args[i]? = some x → cargs[i]? = some u → VR w sig0 av0 x u)
    (hg:∀ g cells,lget E.G g = some cells → VR w sig0 av0 (.rop cells 0) (.pointer (some ⟨g,0,none⟩))) :
    Calls E.P f cargs w fun e w'=>e = .returned (.bool true) ∧ Below w.heap.size w w':=by
  have:=h (fun _=>False) w sig0 cargs.toList (by simpa using hl) (fun i x u hx hu=>hv i x u hx (by simpa using hu)) (BR0 fun _ h=>h.elim) hg
  refine this.mono ?_
  rintro e w' ⟨r,c,L',σ',rfl,⟨rfl,rfl⟩,hvr,_,hgr⟩
  cases hvr
  refine ⟨rfl,hgr.out.1,hgr.out.2.2,hgr.out.2.1,hgr.size,fun k hk=>(hgr.keep k hk avz).2⟩
/-- A table that lies as its initialiser lays it. -/
theorem vr_tab {w:World} {k:IntKind} {g:Nat} {zs:List Int} (hg:g < w.heap.size) (h:∀ i,i < zs.length → w.cell? ⟨g,i,none⟩ = some (.int k (zs.getD i 0))) :
    VR w sig0 av0 (.rop (fl (eI k) zs) 0) (.pointer (some ⟨g,0,none⟩)):=by
  refine .rop (off:=0) (add:=0) (zs.map fun z=>.int k z) ⟨hg,av0_no _,fun i v hi=>?_⟩ (by simp [fl_length,eI]) (fun i y v hy hv=>?_)
  · simp only [List.getElem?_map,Option.map_eq_some_iff] at hi
    obtain ⟨z,hz',rfl⟩:=hi
    have hi2:i < zs.length:=(List.getElem?_eq_some_iff.1 hz').1
    rw [Nat.zero_add,h i hi2]
    simp [List.getD,hz']
  · simp only [List.getElem?_map,Option.map_eq_some_iff] at hv
    obtain ⟨z,hz',rfl⟩:=hv
    have:=fl_get (e:=eI k) (k:=0) hz' Nat.zero_lt_one
    simp [eI] at this
    simp only [eI] at hy
    rw [this] at hy
    simp at hy;subst hy
    exact .int _ _
inductive VRs (w:World) (σ:Sig) (av:Nat → Prop):List PV → List Value → Prop where
  | nil:VRs w σ av [] []
  | cons {x:PV} {v:Value} {xs:List PV} {vs:List Value} (h:VR w σ av x v) (r:VRs w σ av xs vs):VRs w σ av (x :: xs) (v :: vs)
theorem VRs.get {w:World} {σ:Sig} {av:Nat → Prop} {xs:List PV} {cs:List Value} (h:VRs w σ av xs cs):xs.length = cs.length ∧ ∀ (i:Nat) (x:PV) (v:Value),xs[i]? = some x → cs[i]? = some v → VR w σ av x v:=by
  induction h with
  | nil=>simp
  | cons h _ ih=>
    refine ⟨by simp [ih.1],fun i x v hx hv=>?_⟩
    cases i with
    | zero=>simp at hx hv;subst hx;subst hv;exact h
    | succ i=>exact ih.2 i x v (by simpa using hx) (by simpa using hv)
/-- A law's run, its arguments one by one. -/
theorem law_calls' {E:Env} {f:FuncId} {args:List PV} (h:Pure E f args (.bool true)) (w:World) (cargs:List Value) (hv:VRs w sig0 av0 args cargs)
    (hg:∀ g cells,lget E.G g = some cells → VR w sig0 av0 (.rop cells 0) (.pointer (some ⟨g,0,none⟩))) :
    Calls E.P f cargs.toArray w fun e w'=>e = .returned (.bool true) ∧ Below w.heap.size w w':=
  law_calls h w cargs.toArray (by simpa using hv.get.1.symm) (fun i x u hx hu=>hv.get.2 i x u hx (by simpa using hu)) hg
end Go.SH
namespace Go.SH
theorem eI_ints (k:IntKind) (zs:List Int):fl (eI k) zs = zs.map (PV.int k):=by
  induction zs with
  | nil=>rfl
  | cons z r ih=>rw [fl_cons,ih];rfl
theorem chunks {α:Type} (s:Nat):∀ (n:Nat) (cs:List α) (f:Nat → List α),cs.length = n * s → (∀ i,i < n → (cs.drop (i * s)).take s = f i) → cs = (List.range n).flatMap f
  | 0,cs,f,h,_=>by simp at h;simp [h]
  | n + 1,cs,f,h,hf=>by
    have h0:=hf 0 (by omega)
    simp only [Nat.zero_mul,List.drop_zero] at h0
    have ih:=chunks s n (cs.drop s) (fun i=>f (i + 1)) (by rw [List.length_drop,h,Nat.succ_mul];omega) (fun i hi=>by
      have:=hf (i + 1) (by omega)
      rw [List.drop_drop,← this];congr 2;rw [Nat.succ_mul];omega)
    rw [List.range_succ_eq_map,List.flatMap_cons,List.flatMap_map,← ih,← h0,List.take_append_drop]
/-- An array of arrays of integers. -/
theorem cells_of_tab2 {H:Type} {enc:TypeId × Value → H} {P:Program} {w:World} {base:Nat} {sp:Nat → Bool} {held:Bool} {fuel:Nat} {t e e2:TypeId} {n s:Nat} {k:IntKind} {cs:List Value} {rows:List (List Int)} {p:List MemPlace}
    (ht:P.underlying t = some (.array n e)) (he:P.underlying e = some (.array s e2)) (he2:P.underlying e2 = some (.int k)) (hc2:P.cellsOf e2 = 1) (hce:P.cellsOf e = s) (hct:P.cellsOf t = n * s)
    (h:DataW.trod enc P w base sp held fuel t cs = some (.agg (rows.map (Lib.tabData k)),p)):cs = (List.range n).flatMap fun i=>(rows.getD i []).map (Value.int k):=by
  cases fuel with
  | zero=>simp [DataW.trod] at h
  | succ fuel=>
    simp only [DataW.trod,ht,hce,hct] at h
    split at h
    · rename_i hl
      obtain ⟨xs,hm,hx⟩:=Option.map_eq_some_iff.1 h
      have hxs:xs.map (·.1) = rows.map fun zs=>(Lib.tabData k zs:DataW H):=by
        have:=congrArg Prod.fst hx
        simpa using this
      have hxl:xs.length = n:=by simpa using Lib.mapM_length hm
      have hrl:rows.length = n:=by
        have:=congrArg List.length hxs
        simp at this
        omega
      refine chunks s n cs _ hl fun i hi=>?_
      obtain ⟨b,hb,hf⟩:=Lib.mapM_at hm i i (by simp [hi])
      have h2:(xs.map (·.1))[i]? = some b.1:=by simp [hb]
      rw [hxs] at h2
      simp only [List.getElem?_map,Option.map_eq_some_iff] at h2
      obtain ⟨zs,hz,hzb⟩:=h2
      obtain ⟨b1,b2⟩:=b
      simp only at hzb;subst hzb
      rw [List.getD_eq_getElem?_getD,hz,Option.getD_some]
      exact Lib.cells_of_tab he he2 hc2 hce hf
    · cases h
end Go.SH
namespace Go.Proofs.YtfadcigdmddndaaDoor
open Go.ChangeShapes Go.WideShapes Go.ChangeAt Go.RowKit Go.Joins Go.SH
theorem own:ownKnob Tryd.prog.godebug = none:=by kernel_rfl
theorem laidOut:laidOutB Tryd.prog = true:=by kernel_rfl
def flatB:List Int:=tab_bounds.flatMap fun e=>[e.1,e.2.1,e.2.2]
def flatD:List Int:=tab_dB64.map fun x=>(x.toNat:Int)
def laid2:List (String × DataW Unit):=[("math/bits.deBruijn64tab",Rows.laid_math_bits_deBruijn64tab),("oriel/cols.bounds",Rows.laid_oriel_cols_bounds)]
theorem gB:Tryd.prog.globalNamed "oriel/cols.bounds" = some 0:=by kernel_rfl
theorem tB:(Tryd.prog.globals[0]?).map (·.type) = some 106:=by kernel_rfl
theorem gD:Tryd.prog.globalNamed "math/bits.deBruijn64tab" = some 1:=by kernel_rfl
theorem tD:(Tryd.prog.globals[1]?).map (·.type) = some 137:=by kernel_rfl
def rowsB:List (List Int):=tab_bounds.map fun e=>[e.1,e.2.1,e.2.2]
theorem bounds_rows:(Rows.laid_oriel_cols_bounds:DataW Unit) = .agg (rowsB.map (Lib.tabData .i32)):=by kernel_rfl
theorem dB64_tab:(Rows.laid_math_bits_deBruijn64tab:DataW Unit) = Lib.tabData .u8 flatD:=by kernel_rfl
theorem bounds_flat:((List.range 22).flatMap fun i=>(rowsB.getD i []).map (Value.int .i32)) = flatB.map fun z=>Value.int .i32 z:=by kernel_rfl
theorem door_met (os:Os) (args:Array Value):laidMetH Tryd.prog laid2 ((World.doorLaid Tryd.prog 400 os).forCall (fun _ _=>0) ⟨#[],args,[]⟩).memory:=
  laidMetH_of_parts3 (fuel:=8) (laidMet_of_run' 8 (by kernel_rfl) (by kernel_rfl)) (by kernel_rfl) (by kernel_rfl)
theorem of_laid {W:World} (h:laidMetH Tryd.prog laid2 W):(∀ i,i < flatB.length → W.cell? ⟨0,i,none⟩ = some (.int .i32 (flatB.getD i 0))) ∧ ∀ i,i < flatD.length → W.cell? ⟨1,i,none⟩ = some (.int .u8 (flatD.getD i 0)):=by
  rw [MakeChecks.laidMetH_plain _ _ _ (by kernel_rfl)] at h
  obtain ⟨ps,⟨g0,t0,cs0,f0,p0,q0,hg0,ht0,hv0,hd0,⟨g1,t1,cs1,f1,p1,q1,hg1,ht1,hv1,hd1,_,_⟩,_⟩,_,_⟩:=h
  obtain rfl:=Option.some.inj (gD.symm.trans hg0)
  obtain rfl:=Option.some.inj (tD.symm.trans ht0)
  obtain rfl:=Option.some.inj (gB.symm.trans hg1)
  obtain rfl:=Option.some.inj (tB.symm.trans ht1)
  rw [dB64_tab] at hd0
  rw [bounds_rows] at hd1
  have hc0:cs0.toList = flatD.map fun z=>Value.int .u8 z:=Lib.cells_of_tab (k:=.u8) Tryd.underlying137 Tryd.underlying5 (by kernel_rfl) (by kernel_rfl) hd0
  have hc1:cs1.toList = flatB.map fun z=>Value.int .i32 z:=(cells_of_tab2 (k:=.i32) Tryd.underlying106 Tryd.underlying105 Tryd.underlying21 (by kernel_rfl) (by kernel_rfl) (by kernel_rfl) hd1).trans bounds_flat
  have i0:Lib.TabIs Tryd.prog W "math/bits.deBruijn64tab" .u8 flatD:=by unfold Lib.TabIs;rw [hv0,← hc0]
  have i1:Lib.TabIs Tryd.prog W "oriel/cols.bounds" .i32 flatB:=by unfold Lib.TabIs;rw [hv1,← hc1]
  exact ⟨fun i hi=>i1.cell gB i hi,fun i hi=>i0.cell gD i hi⟩
theorem cellsB:(gtPV GT) = [(0,flatB.map (PV.int .i32)),(1,flatD.map (PV.int .u8))]:=by kernel_rfl
theorem En_globals {W:World} (h:laidMetH Tryd.prog laid2 W):∀ g cells,lget En.G g = some cells → VR W sig0 av0 (.rop cells 0) (.pointer (some ⟨g,0,none⟩)):=by
  intro g cells hg
  obtain ⟨h1,h2⟩:=of_laid h
  have hz:∀ (g:Nat) (v:Value),W.cell? ⟨g,0,none⟩ = some v → g < W.heap.size:=by
    intro g v hv
    rcases Nat.lt_or_ge g W.heap.size with h' | h'
    · exact h'
    · simp [World.cell?,Array.getElem?_eq_none h'] at hv
  have hg':lget (gtPV GT) g = some cells:=hg
  rw [cellsB] at hg'
  simp only [lget] at hg'
  split at hg'
  · rename_i e;subst e
    simp at hg';subst hg'
    have:=vr_tab (k:=.i32) (hz 0 _ (h1 0 (by decide))) h1
    rw [eI_ints] at this;exact this
  · split at hg'
    · rename_i e;subst e
      simp at hg';subst hg'
      have:=vr_tab (k:=.u8) (hz 1 _ (h2 0 (by decide))) h2
      rw [eI_ints] at this;exact this
    · simp at hg'
end Go.Proofs.YtfadcigdmddndaaDoor
namespace Go.SH
/-- What the numbers of an input may be. -/
def ET.wf:(t:ET) → t.T → Prop
  | .ti k,x=>(Lit.int k x).wf = true
  | .tp a c,x=>a.wf x.1 ∧ c.wf x.2
  | .tl t,l=>(∀ x ∈ l,t.wf x) ∧ l.length ≤ maxLen
  | _,_=>True
def offsB (P:Program) (tot:Nat):Nat → List Field → Bool
  | o,[]=>o == tot
  | o,f :: r=>(f.offset == o) && offsB P tot (o + P.cellsOf f.type) r
/-- Types that stand for a kind: one, or a struct's, one behind the other. -/
inductive Fit (P:Program):ET → List TypeId → Prop where
  | int {k:IntKind} {τ:TypeId} (h:P.underlying τ = some (.int k)):Fit P (.ti k) [τ]
  | u8 {τ:TypeId} (h:P.underlying τ = some (.int .u8)):Fit P .tu [τ]
  | bool {τ:TypeId} (h:P.underlying τ = some .bool):Fit P .tb [τ]
  | slice {t:ET} {τ e:TypeId} (h:P.underlying τ = some (.slice e)) (hs:P.cellsOf e = t.sz) (f:Fit P t [e]):Fit P (.tl t) [τ]
  | struct {t:ET} {τ:TypeId} {fs:Array Field} (h:P.underlying τ = some (.struct fs)) (ho:offsB P (P.cellsOf τ) 0 fs.toList = true) (f:Fit P t (fs.toList.map (·.type))):Fit P t [τ]
  | array {t:ET} {τ e:TypeId} {n:Nat} (h:P.underlying τ = some (.array n e)) (hz:P.cellsOf τ = n * P.cellsOf e) (f:Fit P t (List.replicate n e)):Fit P t [τ]
  | cons {a c:ET} {τ τ':TypeId} {τs:List TypeId} (f:Fit P a [τ]) (g:Fit P c (τ' :: τs)):Fit P (.tp a c) (τ :: τ' :: τs)
section
variable {H:Type} {enc:TypeId × Value → H} {P:Program} {w:World} {base:Nat} {sp:Nat → Bool} {held:Bool}
/-- Cells that are read as types, one behind the other. -/
def Reads (enc:TypeId × Value → H) (P:Program) (w:World) (base:Nat) (sp:Nat → Bool) (held:Bool):List TypeId → List Value → Prop
  | [],cs=>cs = []
  | τ :: r,cs=>(∃ fuel x,DataW.trod enc P w base sp held fuel τ (cs.take (P.cellsOf τ)) = some x) ∧ Reads enc P w base sp held r (cs.drop (P.cellsOf τ))
theorem reads_one {τ:TypeId} {cs:List Value} (h:Reads enc P w base sp held [τ] cs):∃ fuel x,DataW.trod enc P w base sp held fuel τ cs = some x:=by
  obtain ⟨⟨f,x,hx⟩,hd⟩:=h
  have hd':cs.drop (P.cellsOf τ) = []:=hd
  have:cs.take (P.cellsOf τ) = cs:=List.take_of_length_le (by simpa using hd')
  rw [this] at hx
  exact ⟨f,x,hx⟩
theorem VRs.append {w:World} {σ:Sig} {av:Nat → Prop} {xs ys:List PV} {cs ds:List Value} (h:VRs w σ av xs cs) (h':VRs w σ av ys ds):VRs w σ av (xs ++ ys) (cs ++ ds):=by
  induction h with
  | nil=>exact h'
  | cons h _ ih=>exact .cons h ih
theorem reads_fields {n:Nat} {tot:Nat} {cs:List Value} (hl:cs.length = tot):∀ (l:List Field) (o:Nat),offsB P tot o l = true → (∀ f ∈ l,∃ x,DataW.trod enc P w base sp held n f.type ((cs.drop f.offset).take (P.cellsOf f.type)) = some x) →
    Reads enc P w base sp held (l.map (·.type)) (cs.drop o)
  | [],o,ho,_=>by
    have:o = tot:=by simpa [offsB] using ho
    show cs.drop o = []
    rw [this,← hl,List.drop_length]
  | f :: r,o,ho,h=>by
    simp only [offsB,Bool.and_eq_true,beq_iff_eq] at ho
    obtain ⟨rfl,ho⟩:=ho
    obtain ⟨x,hx⟩:=h f (by simp)
    refine ⟨⟨n,x,hx⟩,?_⟩
    have:=reads_fields hl r _ ho (fun g hg=>h g (by simp [hg]))
    rw [List.drop_drop]
    exact this
theorem reads_arr {m n:Nat} {e:TypeId} {cs:List Value} (hl:cs.length = n * P.cellsOf e) (h:∀ i,i < n → ∃ x,DataW.trod enc P w base sp held m e ((cs.drop (i * P.cellsOf e)).take (P.cellsOf e)) = some x) :
    ∀ (k i:Nat),i + k = n → Reads enc P w base sp held (List.replicate k e) (cs.drop (i * P.cellsOf e))
  | 0,i,hi=>by
    have:i = n:=by omega
    subst this
    show cs.drop _ = []
    rw [← hl,List.drop_length]
  | k + 1,i,hi=>by
    obtain ⟨x,hx⟩:=h i (by omega)
    refine ⟨⟨m,x,hx⟩,?_⟩
    have:=reads_arr hl h k (i + 1) (by omega)
    rw [List.drop_drop]
    rw [Nat.succ_mul] at this
    exact this
/-- Elements that lie one behind the other. -/
theorem elems_open {t:ET} {s β:Nat}:∀ (n off:Nat),(∀ i,i < n → ∃ (v:t.T) (cs:List Value),cs.length = s ∧ (∀ j,j < s → w.cell? ⟨β,off + (i * s + j),none⟩ = cs[j]?) ∧ VRs w sig0 av0 ((el t).pv v) cs ∧ t.wf v) →
    ∃ (l:List t.T) (cs:List Value),l.length = n ∧ cs.length = n * s ∧ (∀ j,j < n * s → w.cell? ⟨β,off + j,none⟩ = cs[j]?) ∧ VRs w sig0 av0 (fl (el t) l) cs ∧ ∀ x ∈ l,t.wf x
  | 0,off,_=>⟨[],[],rfl,by simp,fun j hj=>by simp at hj,.nil,fun x hx=>by simp at hx⟩
  | n + 1,off,h=>by
    obtain ⟨v,cs,h1,h2,h3,h4⟩:=h 0 (by omega)
    obtain ⟨l,ds,k1,k2,k3,k4,k5⟩:=elems_open n (off + s) fun i hi=>by
      obtain ⟨v',cs',q1,q2,q3⟩:=h (i + 1) (by omega)
      refine ⟨v',cs',q1,fun j hj=>?_,q3⟩
      rw [← q2 j hj]
      congr 2
      rw [Nat.succ_mul];omega
    refine ⟨v :: l,cs ++ ds,by simp [k1],by rw [List.length_append,h1,k2,Nat.succ_mul];omega,fun j hj=>?_,by rw [fl_cons];exact h3.append k4,fun x hx=>?_⟩
    · by_cases hj2:j < s
      · rw [List.getElem?_append_left (by omega),← h2 j hj2]
        congr 2;omega
      · rw [List.getElem?_append_right (by omega),h1,← k3 (j - s) (by rw [Nat.succ_mul] at hj;omega)]
        congr 2;omega
    · rcases List.mem_cons.1 hx with rfl | hx
      · exact h4
      · exact k5 x hx
theorem fit_open {t:ET} {τs:List TypeId} (hf:Fit P t τs):∀ {cs:List Value},Reads enc P w base sp held τs cs → ∃ v:t.T,VRs w sig0 av0 ((el t).pv v) cs ∧ t.wf v:=by
  induction hf with
  | int h=>
    intro cs hr
    obtain ⟨f,x,hx⟩:=reads_one hr
    obtain ⟨n,rfl,_,hw⟩:=DataW.trod_int h hx
    exact ⟨n,.cons (.int _ _) .nil,hw⟩
  | u8 h=>
    intro cs hr
    obtain ⟨f,x,hx⟩:=reads_one hr
    obtain ⟨n,rfl,_,hw⟩:=DataW.trod_int h hx
    have h1:IntKind.u8.min = 0:=rfl
    have h2:IntKind.u8.max = 255:=rfl
    simp only [Lit.wf,Bool.and_eq_true,decide_eq_true_eq,h1,h2] at hw
    refine ⟨UInt8.ofNat n.toNat,?_,trivial⟩
    have e:((UInt8.ofNat n.toNat).toNat:Int) = n:=by rw [UInt8.toNat_ofNat'];omega
    have:(el .tu).pv (UInt8.ofNat n.toNat) = [.int .u8 n]:=by
      show [PV.int .u8 ((UInt8.ofNat n.toNat).toNat:Int)] = _
      rw [e]
    rw [this]
    exact .cons (.int _ _) .nil
  | bool h=>
    intro cs hr
    obtain ⟨f,x,hx⟩:=reads_one hr
    obtain ⟨b,rfl,_⟩:=DataW.trod_bool h hx
    exact ⟨b,.cons (.bool _) .nil,trivial⟩
  | @slice t τ e h hs hf ih=>
    intro cs hr
    obtain ⟨f,x,hx⟩:=reads_one hr
    rcases DataW.trod_slice h hx with ⟨rfl,_⟩ | ⟨a,len,cap,elems,rest,n,_,rfl,_,hb,hl,hm,hlen,hel,_⟩
    · exact ⟨[],.cons (.roE _ _ (by simp)) .nil,fun x hx=>by simp at hx,Nat.zero_le _⟩
    · by_cases h0:len = 0
      · subst h0
        exact ⟨[],.cons (.roE _ _ (by simp)) .nil,fun x hx=>by simp at hx,Nat.zero_le _⟩
      · have each:∀ i,i < len → ∃ (v:t.T) (ds:List Value),ds.length = t.sz ∧ (∀ j,j < t.sz → w.cell? ((a.add (i * t.sz)).add j) = ds[j]?) ∧ VRs w sig0 av0 ((el t).pv v) ds ∧ t.wf v:=by
          intro i hi
          have k:=hel i hi
          rw [List.getElem?_eq_getElem (by omega)] at k
          obtain ⟨ds,d1,d2⟩:=Option.bind_eq_some_iff.1 k
          obtain ⟨_,e1,e2⟩:=World.cells?_some d1
          rw [hs] at e1 e2
          obtain ⟨v,v1,v2⟩:=ih (cs:=ds) ⟨⟨n,_,by rw [List.take_of_length_le (by omega)];exact d2⟩,by show ds.drop _ = [];rw [hs,← e1,List.drop_length]⟩
          exact ⟨v,ds,e1,e2,v1,v2⟩
        obtain ⟨b,off,spot⟩:=a
        obtain ⟨v0,ds0,q1,q2,_⟩:=each 0 (by omega)
        have hpos:0 < t.sz:=t.sz_pos
        have c0:=q2 0 hpos
        rw [List.getElem?_eq_getElem (by omega)] at c0
        have hspot:spot = none:=by simpa [Addr.add] using World.cell?_spot c0
        subst hspot
        obtain ⟨l,ds,l1,l2,l3,l4,l5⟩:=elems_open (w:=w) (t:=t) (s:=t.sz) (β:=b) len off fun i hi=>by
          obtain ⟨v,ds,q1,q2,q3⟩:=each i hi
          refine ⟨v,ds,q1,fun j hj=>?_,q3⟩
          rw [← q2 j hj,Go.WideShapes.add_plain,Go.WideShapes.add_plain,Nat.add_assoc]
        have hlt:b < w.heap.size:=by
          have:=l3 0 (Nat.mul_pos (by omega) hpos)
          have hds:0 < ds.length:=by rw [l2];exact Nat.mul_pos (by omega) hpos
          rw [List.getElem?_eq_getElem hds] at this
          rcases Nat.lt_or_ge b w.heap.size with h' | h'
          · exact h'
          · simp [World.cell?,Array.getElem?_eq_none h'] at this
        refine ⟨l,.cons ?_ .nil,l5,by omega⟩
        show VR w sig0 av0 (.ro (fl (el t) l) l.length none) _
        rw [l1]
        refine .ro ds ⟨hlt,av0_no _,fun i v hi=>?_⟩ l4.get.1 l4.get.2 hl (by simp)
        have:i < ds.length:=(List.getElem?_eq_some_iff.1 hi).1
        rw [l3 i (by omega),hi]
  | struct h ho hf ih=>
    intro cs hr
    obtain ⟨f,x,hx⟩:=reads_one hr
    obtain ⟨xs,n,_,_,hl,hxl,hfs⟩:=DataW.trod_struct h hx
    refine ih ?_
    have:=reads_fields (enc:=enc) (P:=P) (w:=w) (base:=base) (sp:=sp) (held:=held) (n:=n) hl _ 0 ho fun g hg=>by
      obtain ⟨i,hi,he⟩:=List.getElem_of_mem hg
      have hi':i < xs.length:=by rw [hxl];simpa using hi
      refine ⟨xs[i],?_⟩
      rw [hfs i g (by rw [← he];simp at hi ⊢),List.getElem?_eq_getElem hi']
    simpa using this
  | @array t τ e n h hz hf ih=>
    intro cs hr
    obtain ⟨f,x,hx⟩:=reads_one hr
    obtain ⟨xs,m,_,_,hl,hxl,hfs⟩:=DataW.trod_array h hx
    refine ih ?_
    have:=reads_arr (enc:=enc) (w:=w) (base:=base) (sp:=sp) (held:=held) (m:=m) (hl.trans hz) (fun i hi=>⟨xs[i]'(by omega),by rw [hfs i hi,List.getElem?_eq_getElem (by omega)]⟩) n 0 (by omega)
    simpa using this
  | @cons a c τ τ' τs hf hg ih1 ih2=>
    intro cs hr
    obtain ⟨⟨f,x,hx⟩,hd⟩:=hr
    by_cases hle:P.cellsOf τ ≤ cs.length
    · obtain ⟨v,v1,v2⟩:=ih1 (cs:=cs.take (P.cellsOf τ)) ⟨⟨f,x,by rw [List.take_take,Nat.min_self];exact hx⟩,by show List.drop _ _ = [];rw [List.drop_take,Nat.sub_self,List.take_zero]⟩
      obtain ⟨u,u1,u2⟩:=ih2 hd
      refine ⟨(v,u),?_,v2,u2⟩
      show VRs w sig0 av0 ((el a).pv v ++ (el c).pv u) cs
      have:=v1.append u1
      rwa [List.take_append_drop] at this
    · have e1:cs.take (P.cellsOf τ) = cs:=List.take_of_length_le (by omega)
      obtain ⟨v,v1,v2⟩:=ih1 (cs:=cs) ⟨⟨f,x,hx⟩,by show cs.drop _ = [];exact List.drop_eq_nil_of_le (by omega)⟩
      obtain ⟨u,u1,u2⟩:=ih2 hd
      rw [List.drop_eq_nil_of_le (by omega)] at u1
      refine ⟨(v,u),?_,v2,u2⟩
      show VRs w sig0 av0 ((el a).pv v ++ (el c).pv u) cs
      have:=v1.append u1
      rwa [List.append_nil] at this
end
end Go.SH
set_option maxRecDepth 100000
namespace Go.Proofs.YtfadcigdmddndaaDoor
open Go.ChangeShapes Go.WideShapes Go.ChangeAt Go.RowKit Go.Joins Go.SH
theorem fit_change:Fit Tryd.prog K86d9 [42]:=
  .struct Tryd.underlying42 (by kernel_rfl) (.cons (.int Tryd.underlying39) (.cons (.int Tryd.underlying3) (.cons (.int Tryd.underlying3) (.cons (.int Tryd.underlying21)
    (.cons (.slice Tryd.underlying40 (by kernel_rfl) (.int Tryd.underlying3)) (.slice Tryd.underlying31 (by kernel_rfl) (.int Tryd.underlying21)))))))
theorem open_changes {H:Type} {enc:TypeId × Value → H} {W:World} {base:Nat} {v:Value} {d:DataW H} {p:List MemPlace} (hval:Value.okWide Tryd.prog W .any base 51 v) (h:DataW.Trod enc Tryd.prog W 0 (fun _=>true) true 51 v d p) :
    ∃ (l:List K86d9.T),VR W sig0 av0 (.ro (fl (el K86d9) l) l.length none) v:=by
  obtain ⟨a,len,cap,rfl⟩:=okWide_slice Tryd.underlying51 hval
  obtain ⟨fuel,hf⟩:=h
  have hc:(Value.slice a len cap).cells.toList = [.slice a len cap]:=by simp [Value.cells]
  have h1:Tryd.prog.cellsOf 51 = 1:=by kernel_rfl
  rw [hc] at hf
  obtain ⟨l,h2,_⟩:=fit_open (Fit.slice Tryd.underlying51 (by kernel_rfl) fit_change) (cs:=[.slice a len cap]) ⟨⟨fuel,_,by rw [h1];exact hf⟩,by show List.drop _ _ = [];rw [h1];rfl⟩
  cases h2 with
  | cons h r=>exact ⟨l,h⟩
end Go.Proofs.YtfadcigdmddndaaDoor
set_option maxRecDepth 100000
namespace Go.Proofs.YtfadcigdmddndaaDoor
open Go Go.ChangeShapes Go.WideShapes Go.ChangeAt Go.RowKit Go.Joins Go.SH
theorem law_pure (a0:Int) (a1:Int) (a2:List K86d9.T) (a3:List K86d9.T):Pure En 7 [.int .i64 a0,.int .i64 a1,.ro (fl (el K86d9) a2) a2.length none,.ro (fl (el K86d9) a3) a3.length none] (.bool true):=
  oriellaw17_ScreenPages_c.ok (a0,a1,a2,a3) true (pages_true a0 a1 a2 a3)
theorem law_lifted (os:Os) (started:os.Started) (H:Type) (enc:TypeId × Value → H) :
    ReturnsInHanded {} Tryd.checked os 7 .any (fun w args=>(Rows.screenPagesSpec.pre enc Tryd.prog Tryd.f7 [] false w args ∧ laidMetH Tryd.prog laid2 w) ∧ sizedMet enc Tryd.prog Tryd.f7 (OpenSpec.ofChange Rows.screenPagesSpec) false w args)
      (Rows.screenPagesSpec.post enc Tryd.prog Tryd.f7 false true false false):=by
  refine returnsInHanded_of_change_and (C:=Tryd.checked) (X:=fun w _=>laidMetH Tryd.prog laid2 w) (fun _ _ _ hh h=>h.of_heap hh) own started (by kernel_rfl) Tryd.func7
    (ChangeSpec.witness_shaped (enc:=enc) (C:=Tryd.checked) (os:=os) (X:=fun w _=>laidMetH Tryd.prog laid2 w) false (World.doorLaid Tryd.prog 400 os) #[.int .i64 0,.int .i64 0,.slice none 0 0,.slice none 0 0] 8 rfl (World.shaped_of_RefB (by kernel_rfl) (by kernel_rfl)) (by kernel_rfl) (by kernel_rfl) (by kernel_rfl) (door_met os _)) ?_
  intro W base args ds gs before hval0 hW _ _ hL _
  have hval:∀ (j:Nat) t v,Tryd.f7.params[j]? = some t → args[j]? = some v → Value.okWide Tryd.prog W .any base t v:=hval0
  have hW':=hW
  obtain ⟨p,q,hA0,hV,rfl,hfz,hnd⟩:=hW
  have hA:DataW.TrodAll enc Tryd.prog W 0 (fun _=>true) true Tryd.f7.params.toList args.toList ds p:=hA0
  rw [Tryd.params7] at hA hval
  obtain ⟨v0,vs0,d0,ds0,p0,q0,ha0,rfl,rfl,h0,hA⟩:=trodAll_cons hA
  obtain ⟨v1,vs1,d1,ds1,p1,q1,rfl,rfl,rfl,h1,hA⟩:=trodAll_cons hA
  obtain ⟨v2,vs2,d2,ds2,p2,q2,rfl,rfl,rfl,h2,hA⟩:=trodAll_cons hA
  obtain ⟨v3,vs3,d3,ds3,p3,q3,rfl,rfl,rfl,h3,hA⟩:=trodAll_cons hA
  obtain ⟨rfl,rfl,rfl⟩:=trodAll_nil hA
  have hargs:args = #[v0,v1,v2,v3]:=by
    apply Array.toList_inj.1;rw [ha0]
  subst hargs
  obtain ⟨rfl,rfl⟩:=trodVars_none hV
  have ltp:∀ {t:TypeId} {v:Value} {d:DataW H} {p:List MemPlace},DataW.Trod enc Tryd.prog W 0 (fun _=>true) true t v d p → ∀ x ∈ p,x.block < W.heap.size:=fun h=>by obtain ⟨m,hm⟩:=h;exact DataW.trod_lt m _ _ _ hm
  have h0':=h0
  obtain ⟨n0,rfl,rfl,rfl,w0⟩:=open_int Tryd.underlying3 (hval 0 3 v0 rfl rfl) h0'
  have h1':=h1
  obtain ⟨n1,rfl,rfl,rfl,w1⟩:=open_int Tryd.underlying3 (hval 1 3 v1 rfl rfl) h1'
  obtain ⟨n2,hv2⟩:=open_changes (hval 2 51 v2 rfl rfl) h2
  obtain ⟨n3,hv3⟩:=open_changes (hval 3 51 v3 rfl rfl) h3
  refine (law_calls' (law_pure n0 n1 n2 n3) W [.int .i64 n0,.int .i64 n1,v2,v3]
    (.cons (.int _ _) (.cons (.int _ _) (.cons hv2 (.cons hv3 .nil)))) (En_globals hL)).mono fun e W' ⟨he,bel⟩=>?_
  subst he
  exact ⟨_,rfl,_,_,_,[],_,[],hW',trodAll_mk1 (shut_bool Tryd.underlying4 _),
    (trodAll_cons_mk (Below.trod laidOut (by kernel_rfl) (of_decide_eq_true (by kernel_rfl)) h0 bel (ltp h0)) (trodAll_cons_mk (Below.trod laidOut (by kernel_rfl) (of_decide_eq_true (by kernel_rfl)) h1 bel (ltp h1)) (trodAll_cons_mk (Below.trod laidOut (by kernel_rfl) (of_decide_eq_true (by kernel_rfl)) h2 bel (ltp h2)) (trodAll_cons_mk (Below.trod laidOut (by kernel_rfl) (of_decide_eq_true (by kernel_rfl)) h3 bel (ltp h3)) trodAll_mk0)))),rfl,bel.frame _,fun h=>by cases h⟩
theorem law_row:Rows.ScreenPagesSaid:=
  OpenClaim.holds_of_wide 7 Tryd.f7 rfl rfl rfl rfl rfl rfl rfl ⟨rfl,rfl,rfl,rfl,rfl⟩ rfl rfl rfl rfl rfl (by kernel_rfl) Tryd.func7 (by kernel_rfl)
    (of_decide_eq_true (by kernel_rfl)) (by unfold Func.isWrapper;first | (rw [if_pos (by decide +kernel)];kernel_rfl) | (rw [if_neg (by decide +kernel)];exact ⟨rfl,rfl⟩))
    (fun os started H enc _=>law_lifted os started H enc)
theorem screen_pages_holds:Rows.ScreenPagesCardSaid:=
  Claim7.holds_tied_plain_at .later [] [.data,.data] true (true,"705957de36b36c3598fda81f9d56006a2f636c4812c72a1772f2aa96b3296aa4") false
    law_row (fun _ h=>by cases h) (by kernel_rfl) (fun _ h=>by cases h) screenPages_row_tie rfl ⟨rfl,rfl⟩ (by kernel_rfl) rfl
    (fun f fn hf hfn=>by
      obtain rfl:f = 7:=Option.some.inj ((show Tryd.prog.funcNamed "oriel/oriellaw17.ScreenPages" = some 7 by kernel_rfl).symm.trans hf) |>.symm
      obtain rfl:fn = Tryd.f7:=(Option.some.inj (Tryd.func7.symm.trans hfn)).symm
      exact ⟨by kernel_rfl,fun j t ht=>by
        rw [Tryd.params7] at ht
        have hm:t ∈ [3,3,51,51]:=by simpa using Array.mem_of_getElem? ht
        have hall:([3,3,51,51].all fun u=>!Tryd.prog.wantsStandIn u) = true:=by kernel_rfl
        exact (show Tryd.prog.wantsStandIn t = false by simpa using List.all_eq_true.1 hall t hm)⟩)
    (by kernel_rfl)
end Go.Proofs.YtfadcigdmddndaaDoor
