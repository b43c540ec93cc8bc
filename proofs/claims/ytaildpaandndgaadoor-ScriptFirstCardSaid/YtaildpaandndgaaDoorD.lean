/- ScriptFirst: true whatever the input -/
import Derived.Test.YtaildpaandndgaaDoorC
import Derived.KernelRfl
import Derived.ProofKit
import Derived.LaidMore
import Derived.OpenShut
import Derived.Below
import Derived.Test.YtaildpaandndgaaDoorRows
import Derived.LaidHandle
import Derived.ChangeMaps5
import Derived.Stop.Joined
import Derived.Stop.LaidErr
import Derived.Lib.LaidTab
import Derived.Lib.LaidU8
import Derived.Lib.SmallJoins
import Derived.Test.YtaildpaandndgaaDoorTie
import Derived.Test.YtaildpaandndgaaDoorCards
import Derived.SevenTiedAt
set_option linter.unusedVariables false
set_option linter.unusedSimpArgs false
set_option linter.unusedSectionVars false
set_option maxRecDepth 100000
namespace Go.SH
open Go.Proofs
variable [Sent34]
theorem stringslite_Index_cc6_dq (a:HT (Sh.hss [.h .ts,.k (.str [10])])):DF En GT (cl [idxL_c] []) Tryd.f63.ntmps Tryd.f63.results.toList (bodyOf Tryd.f63) (.seq .leaf (.seq .leaf (.seq (.blk (.join ⟨[(16,.h .tb)],[17,18,19,20,21,22,23],[],[],[]⟩ (.reg [(7,{split:=true})]) (.cond .leaf (.seq .leaf (.cond (.seq (.reg [(3,{con:=0})]) .leaf) .leaf))))) .leaf))) [.h .ts,.k (.str [10])] (.h (.ti .i64)) a = stringslite_Index_cc6 a:=by kernel_rfl
noncomputable def stringslite_Index_cc6_c:PCon En:=⟨63,[.h .ts,.k (.str [10])],.h (.ti .i64),fun a=>stringslite_Index_cc6 a,Tryd.call63,fun a v h=>DF_ok rfl En_mixed rfl En_ok Tryd.func63 rfl rfl (by decide) ((stringslite_Index_cc6_dq a).trans h)⟩
theorem stringslite_Cut_cc6_dq (a:HT (Sh.hss [.h .ts,.k (.str [10])])):DF En GT (cl [stringslite_Index_cc6_c] []) Tryd.f43.ntmps Tryd.f43.results.toList (bodyOf Tryd.f43) (.seq .leaf (.seq (.seq (.reg [(2,{con:=0})]) (.join ⟨[(12,.h .tb)],[11],[],[],[]⟩ (.reg [(1,{split:=true})]) .leaf)) .leaf)) [.h .ts,.k (.str [10])] (.tup [.h .ts,.h .ts,.h .tb]) a = stringslite_Cut_cc6 a:=by kernel_rfl
noncomputable def stringslite_Cut_cc6_c:PCon En:=⟨43,[.h .ts,.k (.str [10])],.tup [.h .ts,.h .ts,.h .tb],fun a=>stringslite_Cut_cc6 a,Tryd.call43,fun a v h=>DF_ok rfl En_mixed rfl En_ok Tryd.func43 rfl rfl (by decide) ((stringslite_Cut_cc6_dq a).trans h)⟩
theorem strings_Cut_cc6_dq (a:HT (Sh.hss [.h .ts,.k (.str [10])])):DF En GT (cl [stringslite_Cut_cc6_c] []) Tryd.f25.ntmps Tryd.f25.results.toList (bodyOf Tryd.f25) (.seq .leaf (.seq (.reg [(2,{con:=0})]) .leaf)) [.h .ts,.k (.str [10])] (.tup [.h .ts,.h .ts,.h .tb]) a = strings_Cut_cc6 a:=by kernel_rfl
noncomputable def strings_Cut_cc6_c:PCon En:=⟨25,[.h .ts,.k (.str [10])],.tup [.h .ts,.h .ts,.h .tb],fun a=>strings_Cut_cc6 a,Tryd.call25,fun a v h=>DF_ok rfl En_mixed rfl En_ok Tryd.func25 rfl rfl (by decide) ((strings_Cut_cc6_dq a).trans h)⟩
theorem stringslite_Index_1a5_dq (a:HT (Sh.hss [.h .ts,.k (.str [32])])):DF En GT (cl [idxL_c] []) Tryd.f63.ntmps Tryd.f63.results.toList (bodyOf Tryd.f63) (.seq .leaf (.seq .leaf (.seq (.blk (.join ⟨[(16,.h .tb)],[17,18,19,20,21,22,23],[],[],[]⟩ (.reg [(7,{split:=true})]) (.cond .leaf (.seq .leaf (.cond (.seq (.reg [(3,{con:=0})]) .leaf) .leaf))))) .leaf))) [.h .ts,.k (.str [32])] (.h (.ti .i64)) a = stringslite_Index_1a5 a:=by kernel_rfl
noncomputable def stringslite_Index_1a5_c:PCon En:=⟨63,[.h .ts,.k (.str [32])],.h (.ti .i64),fun a=>stringslite_Index_1a5 a,Tryd.call63,fun a v h=>DF_ok rfl En_mixed rfl En_ok Tryd.func63 rfl rfl (by decide) ((stringslite_Index_1a5_dq a).trans h)⟩
theorem stringslite_Cut_1a5_dq (a:HT (Sh.hss [.h .ts,.k (.str [32])])):DF En GT (cl [stringslite_Index_1a5_c] []) Tryd.f43.ntmps Tryd.f43.results.toList (bodyOf Tryd.f43) (.seq .leaf (.seq (.seq (.reg [(2,{con:=0})]) (.join ⟨[(12,.h .tb)],[11],[],[],[]⟩ (.reg [(1,{split:=true})]) .leaf)) .leaf)) [.h .ts,.k (.str [32])] (.tup [.h .ts,.h .ts,.h .tb]) a = stringslite_Cut_1a5 a:=by kernel_rfl
noncomputable def stringslite_Cut_1a5_c:PCon En:=⟨43,[.h .ts,.k (.str [32])],.tup [.h .ts,.h .ts,.h .tb],fun a=>stringslite_Cut_1a5 a,Tryd.call43,fun a v h=>DF_ok rfl En_mixed rfl En_ok Tryd.func43 rfl rfl (by decide) ((stringslite_Cut_1a5_dq a).trans h)⟩
theorem strings_Cut_1a5_dq (a:HT (Sh.hss [.h .ts,.k (.str [32])])):DF En GT (cl [stringslite_Cut_1a5_c] []) Tryd.f25.ntmps Tryd.f25.results.toList (bodyOf Tryd.f25) (.seq .leaf (.seq (.reg [(2,{con:=0})]) .leaf)) [.h .ts,.k (.str [32])] (.tup [.h .ts,.h .ts,.h .tb]) a = strings_Cut_1a5 a:=by kernel_rfl
noncomputable def strings_Cut_1a5_c:PCon En:=⟨25,[.h .ts,.k (.str [32])],.tup [.h .ts,.h .ts,.h .tb],fun a=>strings_Cut_1a5 a,Tryd.call25,fun a v h=>DF_ok rfl En_mixed rfl En_ok Tryd.func25 rfl rfl (by decide) ((strings_Cut_1a5_dq a).trans h)⟩
theorem script_form_dq (a:HT (Sh.hss [.h .ts])):DF En GT noC Tryd.f44.ntmps Tryd.f44.results.toList (bodyOf Tryd.f44) (.seq .leaf (.seq (.seq .leaf (.blk (.join ⟨[(4,.h .tb)],[5,6],[],[],[]⟩ (.join ⟨[(4,.h .tb)],[5],[],[],[]⟩ (.reg [(1,{split:=true})]) (.cond .leaf (.reg [(1,{split:=true})]))) (.cond .leaf (.join ⟨[(7,.h .tb)],[8,9,10],[],[],[]⟩ (.join ⟨[(7,.h .tb)],[8],[],[],[]⟩ (.reg [(1,{split:=true})]) (.cond .leaf (.join ⟨[(7,.h .tb)],[9],[],[],[]⟩ (.reg [(1,{split:=true})]) (.cond .leaf (.reg [(1,{split:=true})]))))) (.cond .leaf (.join ⟨[(11,.h .tb)],[12],[],[],[]⟩ (.reg [(1,{split:=true})]) (.cond .leaf (.join ⟨[(13,.h .tb)],[14],[],[],[]⟩ (.reg [(1,{split:=true})]) (.cond .leaf (.join ⟨[(15,.h .tb)],[16],[],[],[]⟩ (.reg [(1,{split:=true})]) (.cond .leaf (.join ⟨[(17,.h .tb)],[18],[],[],[]⟩ (.reg [(1,{split:=true})]) (.cond .leaf (.join ⟨[(19,.h .tb)],[20],[],[],[]⟩ (.reg [(1,{split:=true})]) (.cond .leaf (.join ⟨[(21,.h .tb)],[22],[],[],[]⟩ (.reg [(1,{split:=true})]) (.cond .leaf (.join ⟨[(23,.h .tb)],[24],[],[],[]⟩ (.reg [(1,{split:=true})]) (.cond .leaf (.join ⟨[(25,.h .tb)],[26],[],[],[]⟩ (.reg [(1,{split:=true})]) .leaf))))))))))))))))))))) .leaf)) [.h .ts] (.h .ts) a = script_form a:=by kernel_rfl
noncomputable def script_form_c:PCon En:=⟨44,[.h .ts],.h .ts,fun a=>script_form a,Tryd.call44,fun a v h=>DF_ok rfl En_mixed rfl En_ok Tryd.func44 rfl rfl (by decide) ((script_form_dq a).trans h)⟩
theorem strings_Index_1a5_dq (a:HT (Sh.hss [.h .ts,.k (.str [32])])):DF En GT (cl [stringslite_Index_1a5_c] []) Tryd.f81.ntmps Tryd.f81.results.toList (bodyOf Tryd.f81) (.seq .leaf (.seq (.reg [(2,{con:=0})]) .leaf)) [.h .ts,.k (.str [32])] (.h (.ti .i64)) a = strings_Index_1a5 a:=by kernel_rfl
noncomputable def strings_Index_1a5_c:PCon En:=⟨81,[.h .ts,.k (.str [32])],.h (.ti .i64),fun a=>strings_Index_1a5 a,Tryd.call81,fun a v h=>DF_ok rfl En_mixed rfl En_ok Tryd.func81 rfl rfl (by decide) ((strings_Index_1a5_dq a).trans h)⟩
theorem strings_genSplit_92d_dq (a:HT (Sh.hss [.h .ts,.k (.str [32]),.h (.ti .i64),.h (.ti .i64)])):DF En GT (cl [strings_Index_1a5_c] []) Tryd.f64.ntmps Tryd.f64.results.toList (bodyOf Tryd.f64) (.seq .leaf (.seq (.join ⟨[(13,.h .tb)],[12],[],[],[]⟩ (.reg [(1,{split:=true})]) .leaf) (.seq .leaf (.seq (.join ⟨[(20,.h .tb)],[19],[],[],[]⟩ (.reg [(1,{split:=true})]) (.cond (.reg [(2,{con:=99})]) .leaf)) (.seq .leaf (.seq .leaf (.seq .leaf (.seq .leaf (.seq (.blk (.loop ⟨[(0,.h .ts),(10,.h (.ti .i64))],[11,34,35,36,37,38,39,40,41,42,43,44,45,46,47,48,49,50,51,52,53,54,55,56,57],[(0,.ls .ts)],[],[]⟩ [(.exit 0,⟨[(0,.h .ts),(10,.h (.ti .i64))],[11,34,35,36,37,38,39,40,41,42,43,44,45,46,47,48,49,50,51,52,53,54,55,56,57],[(0,.ls .ts)],[],[]⟩)] (.seq (.join ⟨[(36,.h .tb)],[34,35],[],[],[]⟩ (.reg [(2,{split:=true})]) .leaf) (.blk (.seq (.reg [(2,{con:=0})]) (.seq (.join ⟨[(41,.h .tb)],[40],[],[],[]⟩ (.reg [(1,{split:=true})]) .leaf) .leaf)))))) .leaf))))))))) [.h .ts,.k (.str [32]),.h (.ti .i64),.h (.ti .i64)] (.h (.tl .ts)) a = strings_genSplit_92d a.1 a.2.1 a.2.2:=by kernel_rfl
noncomputable def strings_genSplit_92d_c:PCon En:=⟨64,[.h .ts,.k (.str [32]),.h (.ti .i64),.h (.ti .i64)],.h (.tl .ts),fun a=>strings_genSplit_92d a.1 a.2.1 a.2.2,Tryd.call64,fun a v h=>DF_ok rfl En_mixed rfl En_ok Tryd.func64 rfl rfl (by decide) ((strings_genSplit_92d_dq a).trans h)⟩
theorem strings_SplitN_02b_dq (a:HT (Sh.hss [.h .ts,.k (.str [32]),.h (.ti .i64)])):DF En GT (cl [strings_genSplit_92d_c] []) Tryd.f45.ntmps Tryd.f45.results.toList (bodyOf Tryd.f45) (.seq .leaf (.seq (.reg [(3,{con:=0})]) .leaf)) [.h .ts,.k (.str [32]),.h (.ti .i64)] (.h (.tl .ts)) a = strings_SplitN_02b a.1 a.2:=by kernel_rfl
noncomputable def strings_SplitN_02b_c:PCon En:=⟨45,[.h .ts,.k (.str [32]),.h (.ti .i64)],.h (.tl .ts),fun a=>strings_SplitN_02b a.1 a.2,Tryd.call45,fun a v h=>DF_ok rfl En_mixed rfl En_ok Tryd.func45 rfl rfl (by decide) ((strings_SplitN_02b_dq a).trans h)⟩
theorem script_choice_dq (a:HT (Sh.hss [.h .ts,.h .ts,.h .ts])):DF En GT noC Tryd.f65.ntmps Tryd.f65.results.toList (bodyOf Tryd.f65) (.seq .leaf (.seq (.seq .leaf (.blk (.join ⟨[(9,.h .tb)],[10,11],[],[],[]⟩ (.reg [(2,{split:=true})]) (.cond .leaf (.join ⟨[(13,.h .tb)],[14,15],[],[],[]⟩ (.reg [(2,{split:=true})]) .leaf))))) .leaf)) [.h .ts,.h .ts,.h .ts] (.tup [.st (.tp (.ti .i64) (.tl .tu)),.h (.te 71)]) a = script_choice a.1 a.2.1 a.2.2:=by kernel_rfl
noncomputable def script_choice_c:PCon En:=⟨65,[.h .ts,.h .ts,.h .ts],.tup [.st (.tp (.ti .i64) (.tl .tu)),.h (.te 71)],fun a=>script_choice a.1 a.2.1 a.2.2,Tryd.call65,fun a v h=>DF_ok rfl En_mixed rfl En_ok Tryd.func65 rfl rfl (by decide) ((script_choice_dq a).trans h)⟩
theorem script_plain_dq (a:HT (Sh.hss [.h .tu])):DF En GT noC Tryd.f73.ntmps Tryd.f73.results.toList (bodyOf Tryd.f73) (.seq .leaf (.seq (.reg [(2,{split:=true}),(6,{split:=true}),(10,{split:=true})]) .leaf)) [.h .tu] (.h .tb) a = script_plain a:=by kernel_rfl
noncomputable def script_plain_c:PCon En:=⟨73,[.h .tu],.h .tb,fun a=>script_plain a,Tryd.call73,fun a v h=>DF_ok rfl En_mixed rfl En_ok Tryd.func73 rfl rfl (by decide) ((script_plain_dq a).trans h)⟩
theorem script_text_dq (a:HT (Sh.hss [.h .ts,.h (.ti .i64),.h (.ti .i64)])):DF En GT (cl [script_plain_c,idxB_c] []) Tryd.f66.ntmps Tryd.f66.results.toList (bodyOf Tryd.f66) (.seq .leaf (.seq (.join ⟨[(28,.h .tb)],[13,14,15,16,17,18,19,20,21,22,23,24,25,26,27],[],[],[]⟩ (.reg [(3,{split:=true}),(8,{split:=true}),(15,{split:=true})]) .leaf) (.seq .leaf (.seq .leaf (.seq (.seq .leaf (.blk (.loop ⟨[(8,.rww 1 1),(9,.h (.ti .i64))],[10,11,12,36,37,38,39,40,41,42,43,44,45,46,47,48,49,50,51,52,53,54,55,56,59,60,61,62,63,64,65,66,67,68,69,70,71,72,73,74,75,76,77,78,79,80,81,82,85,86,87,88,89,90,91,92,93,94,95],[(1,.ls .tu)],[],[]⟩ [(.ret,⟨[(7,.h (.te 71))],[8,9,10,11,12,36,37,38,39,40,41,42,43,44,45,46,47,48,49,50,51,52,53,54,55,56,57,58,59,60,61,62,63,64,65,66,67,68,69,70,71,72,73,74,75,76,77,78,79,80,81,82,83,84,85,86,87,88,89,90,91,92,93,94,95],[],[(0,0,.k (.int .i64 0)),(0,1,.k .nils)],[]⟩),(.exit 0,⟨[(8,.rww 1 1)],[9,10,11,12,36,37,38,39,40,41,42,43,44,45,46,47,48,49,50,51,52,53,54,55,56,59,60,61,62,63,64,65,66,67,68,69,70,71,72,73,74,75,76,77,78,79,80,81,82,85,86,87,88,89,90,91,92,93,94,95],[(1,.ls .tu)],[],[]⟩)] (.seq (.join ⟨[(39,.h .tb)],[36,37,38],[],[],[]⟩ (.reg [(3,{split:=true})]) .leaf) (.seq (.blk (.seq .leaf (.joinX ⟨[(9,.h (.ti .i64)),(10,.h .tu)],[11,12,45,46,47,48,49,50,51,52,53,54,55,56,59,60,61,62,63,64,65,66,67,68,69,70,71,72,73,74,75,76,77,78,79,80,81,82,85,86,87,88,89,90,91],[],[],[]⟩ (.join ⟨[(47,.h .tb)],[45,46],[],[],[]⟩ (.reg [(1,{con:=0}),(2,{split:=true})]) (.cond (.seq (.join ⟨[(56,.h .tb)],[48,49,50,51,52,53,54,55],[],[],[]⟩ (.reg [(2,{split:=true}),(8,{split:=true})]) .leaf) (.seq (.reg [(4,{con:=1}),(9,{con:=1})]) (.seq (.join ⟨[(82,.h .tb)],[69,70,71,72,73,74,75,76,77,78,79,80,81],[],[],[]⟩ (.reg [(2,{split:=true}),(6,{split:=true}),(12,{con:=0}),(13,{split:=true})]) .leaf) .leaf))) .leaf)) .leaf))) .leaf))))) (.seq (.join ⟨[(105,.h .tb)],[96,97,98,99,100,101,102,103,104],[],[],[]⟩ (.reg [(4,{split:=true}),(9,{split:=true})]) .leaf) .leaf)))))) [.h .ts,.h (.ti .i64),.h (.ti .i64)] (.tup [.st (.tp (.ti .i64) (.tl .tu)),.h (.te 71)]) a = script_text a.1 a.2.1 a.2.2:=by kernel_rfl
noncomputable def script_text_c:PCon En:=⟨66,[.h .ts,.h (.ti .i64),.h (.ti .i64)],.tup [.st (.tp (.ti .i64) (.tl .tu)),.h (.te 71)],fun a=>script_text a.1 a.2.1 a.2.2,Tryd.call66,fun a v h=>DF_ok rfl En_mixed rfl En_ok Tryd.func66 rfl rfl (by decide) ((script_text_dq a).trans h)⟩
theorem script_bounds_dq (a:HT (Sh.hss [.h .tu])):DF En GT noC Tryd.f83.ntmps Tryd.f83.results.toList (bodyOf Tryd.f83) (.seq .leaf (.seq (.seq .leaf (.blk (.join ⟨[(5,.h .tb)],[6],[],[],[]⟩ (.reg [(1,{split:=true})]) (.cond .leaf (.join ⟨[(7,.h .tb)],[8],[],[],[]⟩ (.reg [(1,{split:=true})]) (.cond .leaf (.join ⟨[(9,.h .tb)],[10],[],[],[]⟩ (.reg [(1,{split:=true})]) (.cond .leaf (.join ⟨[(11,.h .tb)],[12],[],[],[]⟩ (.reg [(1,{split:=true})]) (.cond .leaf (.join ⟨[(13,.h .tb)],[14],[],[],[]⟩ (.reg [(1,{split:=true})]) .leaf))))))))))) .leaf)) [.h .tu] (.tup [.h (.ti .i64),.h (.ti .i64)]) a = script_bounds a:=by kernel_rfl
noncomputable def script_bounds_c:PCon En:=⟨83,[.h .tu],.tup [.h (.ti .i64),.h (.ti .i64)],fun a=>script_bounds a,Tryd.call83,fun a v h=>DF_ok rfl En_mixed rfl En_ok Tryd.func83 rfl rfl (by decide) ((script_bounds_dq a).trans h)⟩
theorem script_number_dq (a:HT (Sh.hss [.h .ts,.h .tu])):DF En GT (cl [script_bounds_c] []) Tryd.f67.ntmps Tryd.f67.results.toList (bodyOf Tryd.f67) (.seq .leaf (.seq (.reg [(1,{con:=0})]) (.seq .leaf (.seq (.join ⟨[(31,.h .tb)],[15,16,17,18,19,20,21,22,23,24,25,26,27,28,29,30],[],[],[]⟩ (.reg [(2,{split:=true}),(7,{split:=true}),(11,{split:=true}),(16,{split:=true})]) .leaf) (.seq (.seq .leaf (.blk (.loop ⟨[(8,.h (.ti .i64)),(36,.h (.ti .i64))],[9,37,38,39,40,41,42,43,44,45,46,47,48,51,52,53,54,55,56,57,58,59],[],[],[]⟩ [(.ret,⟨[(5,.h (.te 71))],[8,9,36,37,38,39,40,41,42,43,44,45,46,47,48,49,50,51,52,53,54,55,56,57,58,59],[],[(0,0,.k (.int .i64 0)),(0,1,.k .nils)],[]⟩),(.exit 0,⟨[(8,.h (.ti .i64))],[9,36,37,38,39,40,41,42,43,44,45,46,47,48,51,52,53,54,55,56,57,58,59],[],[],[]⟩)] (.join ⟨[(37,.h .tb)],[],[],[],[]⟩ (.reg [(0,{split:=true})]) (.seq .leaf (.seq (.blk (.seq .leaf (.seq (.join ⟨[(48,.h .tb)],[39,40,41,42,43,44,45,46,47],[],[],[]⟩ (.reg [(4,{split:=true}),(9,{split:=true})]) .leaf) .leaf))) .leaf)))))) (.seq (.join ⟨[(67,.h .tb)],[60,61,62,63,64,65,66],[],[],[]⟩ (.reg [(3,{split:=true}),(7,{split:=true})]) .leaf) .leaf)))))) [.h .ts,.h .tu] (.tup [.st (.tp (.ti .i64) (.tl .tu)),.h (.te 71)]) a = script_number a.1 a.2:=by kernel_rfl
noncomputable def script_number_c:PCon En:=⟨67,[.h .ts,.h .tu],.tup [.st (.tp (.ti .i64) (.tl .tu)),.h (.te 71)],fun a=>script_number a.1 a.2,Tryd.call67,fun a v h=>DF_ok rfl En_mixed rfl En_ok Tryd.func67 rfl rfl (by decide) ((script_number_dq a).trans h)⟩
theorem script_read_dq (a:HT (Sh.hss [.h .ts,.h .tu])):DF En GT (cl [script_choice_c,script_text_c,script_number_c] []) Tryd.f46.ntmps Tryd.f46.results.toList (bodyOf Tryd.f46) (.seq .leaf (.seq (.seq .leaf (.blk (.join ⟨[(7,.h .tb)],[8],[],[],[]⟩ (.reg [(1,{split:=true})]) (.cond (.seq (.reg [(1,{con:=0})]) .leaf) (.join ⟨[(13,.h .tb)],[14],[],[],[]⟩ (.reg [(1,{split:=true})]) (.cond (.seq (.reg [(1,{con:=0})]) .leaf) (.join ⟨[(19,.h .tb)],[20],[],[],[]⟩ (.reg [(1,{split:=true})]) (.cond (.seq (.reg [(1,{con:=1})]) .leaf) (.join ⟨[(25,.h .tb)],[26],[],[],[]⟩ (.reg [(1,{split:=true})]) (.cond (.seq (.reg [(1,{con:=1})]) .leaf) .leaf)))))))))) (.seq (.reg [(2,{con:=2})]) .leaf))) [.h .ts,.h .tu] (.tup [.st (.tp (.ti .i64) (.tl .tu)),.h (.te 71)]) a = script_read a.1 a.2:=by kernel_rfl
noncomputable def script_read_c:PCon En:=⟨46,[.h .ts,.h .tu],.tup [.st (.tp (.ti .i64) (.tl .tu)),.h (.te 71)],fun a=>script_read a.1 a.2,Tryd.call46,fun a v h=>DF_ok rfl En_mixed rfl En_ok Tryd.func46 rfl rfl (by decide) ((script_read_dq a).trans h)⟩
theorem script_event_dq (a:HT (Sh.hss [.h .ts,.h (.tl (.tp (.ti .i64) (.tl .tu)))])):DF En GT noC Tryd.f47.ntmps Tryd.f47.results.toList (bodyOf Tryd.f47) (.seq .leaf (.seq .leaf (.join ⟨[],[11,12,13,14,15,16,17,18,19,20,21,22,23,24,25,26,27,28,29,30,31,32,33,34,35,36,37,38,39,40,41,42,43,44,45,46,47,48,49,50,51,52,53,54,55,56,57,58,59,60,61,62,63,64,65,66,67,68,69,70,71,72,73,74,75,76,77,78,79,80,81,82,83,84,85,86,87,88,89,90,91,92,93,94,95,96,97,98,99,100,101,102,103,104,105,106,107,108,109,110,111,112,113,114,115,116,117,118],[],[(1,0,.h (.ti .i64)),(1,1,.h (.ti .i64)),(1,2,.h (.ti .i64)),(1,3,.h (.ti .i64)),(1,4,.h (.ti .i64)),(1,5,.h (.ti .i64)),(1,6,.h (.tl .tu)),(1,7,.h (.ti .i64)),(1,8,.h (.ti .i64)),(1,9,.h (.tl .tu))],[]⟩ (.seq .leaf (.blk (.join ⟨[(12,.h .tb)],[13,14],[],[],[]⟩ (.join ⟨[(12,.h .tb)],[13],[],[],[]⟩ (.reg [(1,{split:=true})]) (.cond .leaf (.reg [(1,{split:=true})]))) (.cond (.seq .leaf (.join ⟨[(23,.h .tb)],[22],[],[],[]⟩ (.reg [(1,{split:=true})]) .leaf)) (.join ⟨[(25,.h .tb)],[26],[],[],[]⟩ (.reg [(1,{split:=true})]) (.cond .leaf (.join ⟨[(28,.h .tb)],[29],[],[],[]⟩ (.reg [(1,{split:=true})]) (.cond .leaf (.join ⟨[(33,.h .tb)],[34],[],[],[]⟩ (.reg [(1,{split:=true})]) (.cond .leaf (.join ⟨[(38,.h .tb)],[39],[],[],[]⟩ (.reg [(1,{split:=true})]) (.cond .leaf (.join ⟨[(47,.h .tb)],[48],[],[],[]⟩ (.reg [(1,{split:=true})]) (.cond .leaf (.join ⟨[(60,.h .tb)],[61],[],[],[]⟩ (.reg [(1,{split:=true})]) (.cond .leaf (.join ⟨[(68,.h .tb)],[69],[],[],[]⟩ (.reg [(1,{split:=true})]) (.cond .leaf (.join ⟨[(75,.h .tb)],[76],[],[],[]⟩ (.reg [(1,{split:=true})]) (.cond .leaf (.join ⟨[(82,.h .tb)],[83],[],[],[]⟩ (.reg [(1,{split:=true})]) (.cond .leaf (.join ⟨[(93,.h .tb)],[94],[],[],[]⟩ (.reg [(1,{split:=true})]) (.cond .leaf (.join ⟨[(101,.h .tb)],[102],[],[],[]⟩ (.reg [(1,{split:=true})]) .leaf))))))))))))))))))))))))) .leaf))) [.h .ts,.h (.tl (.tp (.ti .i64) (.tl .tu)))] (.st (.tp (.ti .i64) K5605)) a = script_event a.1 a.2:=by kernel_rfl
noncomputable def script_event_c:PCon En:=⟨47,[.h .ts,.h (.tl (.tp (.ti .i64) (.tl .tu)))],.st (.tp (.ti .i64) K5605),fun a=>script_event a.1 a.2,Tryd.call47,fun a v h=>DF_ok rfl En_mixed rfl En_ok Tryd.func47 rfl rfl (by decide) ((script_event_dq a).trans h)⟩
theorem script_parse_dq (a:HT (Sh.hss [.h .ts])):DF En GT (cl [strings_Cut_1a5_c,script_form_c,strings_SplitN_02b_c,script_read_c,script_event_c] []) Tryd.f26.ntmps Tryd.f26.results.toList (bodyOf Tryd.f26) (.seq .leaf (.seq (.reg [(1,{con:=0})]) (.seq (.reg [(1,{con:=1})]) (.seq (.join ⟨[(26,.h .tb)],[21,22,23,24,25],[],[],[]⟩ (.reg [(2,{split:=true}),(5,{split:=true})]) .leaf) (.seq (.reg [(3,{con:=2})]) (.seq (.join ⟨[(37,.h .tb)],[33,34,35,36],[],[],[]⟩ (.reg [(4,{split:=true})]) .leaf) (.seq .leaf (.seq (.seq .leaf (.blk (.loop ⟨[(9,.rww 1 2),(42,.h (.ti .i64))],[10,11,12,43,44,45,46,47,48,49,50,51,52,53,54,55,56,57,60,61,62,63,64],[(1,.ls (.tp (.ti .i64) (.tl .tu)))],[],[]⟩ [(.ret,⟨[(3,.h (.te 71))],[9,10,11,12,42,43,44,45,46,47,48,49,50,51,52,53,54,55,56,57,58,59,60,61,62,63,64],[],[(0,0,.k (.int .i64 0)),(0,1,.k (.int .i64 0)),(0,2,.k (.int .i64 0)),(0,3,.k (.int .i64 0)),(0,4,.k (.int .i64 0)),(0,5,.k (.int .i64 0)),(0,6,.k .nils),(0,7,.k (.int .i64 0)),(0,8,.k (.int .i64 0)),(0,9,.k .nils)],[]⟩),(.exit 0,⟨[(9,.rww 1 2)],[10,11,12,42,43,44,45,46,47,48,49,50,51,52,53,54,55,56,57,60,61,62,63,64],[(1,.ls (.tp (.ti .i64) (.tl .tu)))],[],[]⟩)] (.join ⟨[(43,.h .tb)],[],[],[],[]⟩ (.reg [(0,{split:=true})]) (.seq .leaf (.seq (.blk (.seq .leaf (.seq (.reg [(7,{con:=3})]) (.seq (.join ⟨[(57,.h .tb)],[56],[],[],[]⟩ (.reg [(1,{split:=true})]) .leaf) .leaf)))) .leaf)))))) (.seq (.reg [(2,{fz:=[(66,.tp (.ti .i64) (.tl .tu))],con:=4})]) .leaf))))))))) [.h .ts] (.tup [.st (.tp (.ti .i64) K5605),.h (.te 71)]) a = script_parse a:=by kernel_rfl
noncomputable def script_parse_c:PCon En:=⟨26,[.h .ts],.tup [.st (.tp (.ti .i64) K5605),.h (.te 71)],fun a=>script_parse a,Tryd.call26,fun a v h=>DF_ok rfl En_mixed rfl En_ok Tryd.func26 rfl rfl (by decide) ((script_parse_dq a).trans h)⟩
theorem script_in_dq (a:HT (Sh.hss [.h (.te 71),.h (.ti .i64)])):DF En GT (cl [] [asE0_c]) Tryd.f27.ntmps Tryd.f27.results.toList (bodyOf Tryd.f27) (.seq .leaf (.seq .leaf (.seq (.seq (.reg [(2,{io:=some 0})]) .leaf) .leaf))) [.h (.te 71),.h (.ti .i64)] (.h (.to 35 (.tp (.ti .i64) (.te 71)))) a = script_in a.1 a.2:=by kernel_rfl
noncomputable def script_in_c:PCon En:=⟨27,[.h (.te 71),.h (.ti .i64)],.h (.to 35 (.tp (.ti .i64) (.te 71))),fun a=>script_in a.1 a.2,Tryd.call27,fun a v h=>DF_ok rfl En_mixed rfl En_ok Tryd.func27 rfl rfl (by decide) ((script_in_dq a).trans h)⟩
theorem script_Parse_dq (a:HT (Sh.hss [.h .ts])):DF En GT (cl [strings_Cut_cc6_c,script_parse_c,script_in_c] []) Tryd.f12.ntmps Tryd.f12.results.toList (bodyOf Tryd.f12) (.seq .leaf (.seq .leaf (.seq (.seq .leaf (.blk (.loop ⟨[(0,.h .ts),(4,.rww 0 10),(5,.h (.ti .i64))],[6,7,8,9,10,11,12,13,14,15,16,17,18,19,20,21,22,23,24,25,26,27,28,29,30,31,32,33,34,35,36,37,38,39,40,41,42,43,44,48],[(0,.ls (.tp (.ti .i64) K5605))],[],[]⟩ [(.ret,⟨[(2,.k .nils),(3,.h (.to 35 (.tp (.ti .i64) (.te 71))))],[0,4,5,6,7,8,9,10,11,12,13,14,15,16,17,18,19,20,21,22,23,24,25,26,27,28,29,30,31,32,33,34,35,36,37,38,39,40,41,42,43,44,45,46,47,48],[],[],[]⟩),(.exit 0,⟨[(4,.rww 0 10)],[0,5,6,7,8,9,10,11,12,13,14,15,16,17,18,19,20,21,22,23,24,25,26,27,28,29,30,31,32,33,34,35,36,37,38,39,40,41,42,43,44,48],[(0,.ls (.tp (.ti .i64) K5605))],[],[]⟩)] (.seq (.join ⟨[(12,.h .tb)],[11],[],[],[]⟩ (.reg [(1,{split:=true})]) .leaf) (.seq (.blk (.seq (.reg [(1,{con:=0})]) (.seq .leaf (.join ⟨[(4,.rww 1 10),(9,.h (.te 71))],[10,21,22,23,24,25,26,27,28,29,30,31,32,33,34,35,36,37,38,39,40,41,42],[(1,.ls (.tp (.ti .i64) K5605))],[],[0]⟩ (.blk (.join ⟨[(30,.h .tb)],[31,32,33,34,35,36,37],[],[],[]⟩ (.reg [(3,{split:=true}),(7,{split:=true})]) (.cond .leaf (.join ⟨[(39,.h .tb)],[40,41],[],[],[]⟩ (.reg [(2,{split:=true})]) (.cond .leaf (.seq .leaf (.seq (.reg [(1,{con:=1})]) .leaf))))))) (.seq (.join ⟨[(44,.h .tb)],[43],[],[],[]⟩ (.reg [(1,{split:=true})]) (.cond (.seq (.reg [(2,{con:=2})]) .leaf) .leaf)) .leaf))))) .leaf))))) .leaf))) [.h .ts] (.tup [.h (.tl (.tp (.ti .i64) K5605)),.h (.to 35 (.tp (.ti .i64) (.te 71)))]) a = script_Parse a:=by kernel_rfl
noncomputable def script_Parse_c:PCon En:=⟨12,[.h .ts],.tup [.h (.tl (.tp (.ti .i64) K5605)),.h (.to 35 (.tp (.ti .i64) (.te 71)))],fun a=>script_Parse a,Tryd.call12,fun a v h=>DF_ok rfl En_mixed rfl En_ok Tryd.func12 rfl rfl (by decide) ((script_Parse_dq a).trans h)⟩
theorem oriellaw34_fault_dq (a:HT (Sh.hss [.h (.to 35 (.tp (.ti .i64) (.te 71)))])):DF En GT (cl [isF_c] [asFa_c]) Tryd.f15.ntmps Tryd.f15.results.toList (bodyOf Tryd.f15) (.seq .leaf (.seq .leaf (.seq (.join ⟨[(17,.h .tb)],[6,7,8,9,10,11,12,13,14,15,16],[],[(0,0,.h (.tq (.tp (.ti .i64) (.te 71))))],[]⟩ (.reg [(2,{split:=true}),(5,{io:=some 0}),(8,{split:=true}),(11,{split:=true})]) .leaf) (.seq .leaf (.join ⟨[(5,.h (.ti .i64))],[18,19,20,21,22,23,24,25,26,27,28,29,30,31,32,33,34,35,36,37],[],[],[]⟩ (.blk (.join ⟨[(18,.h .tb)],[19,20,21],[],[],[]⟩ (.reg [(2,{con:=0}),(3,{split:=true})]) (.cond .leaf (.join ⟨[(22,.h .tb)],[23,24,25],[],[],[]⟩ (.reg [(2,{con:=0}),(3,{split:=true})]) (.cond .leaf (.join ⟨[(26,.h .tb)],[27,28,29],[],[],[]⟩ (.reg [(2,{con:=0}),(3,{split:=true})]) (.cond .leaf (.join ⟨[(30,.h .tb)],[31,32,33],[],[],[]⟩ (.reg [(2,{con:=0}),(3,{split:=true})]) (.cond .leaf (.join ⟨[(34,.h .tb)],[35,36,37],[],[],[]⟩ (.reg [(2,{con:=0}),(3,{split:=true})]) .leaf)))))))))) .leaf))))) [.h (.to 35 (.tp (.ti .i64) (.te 71)))] (.tup [.h (.ti .i64),.h (.ti .i64)]) a = oriellaw34_fault a:=by kernel_rfl
noncomputable def oriellaw34_fault_c:PCon En:=⟨15,[.h (.to 35 (.tp (.ti .i64) (.te 71)))],.tup [.h (.ti .i64),.h (.ti .i64)],fun a=>oriellaw34_fault a,Tryd.call15,fun a v h=>DF_ok rfl En_mixed rfl En_ok Tryd.func15 rfl rfl (by decide) ((oriellaw34_fault_dq a).trans h)⟩
theorem script_quoted_dq (a:HT (Sh.hss [.h (.tl .tu)])):DF En GT (cl [script_plain_c] []) Tryd.f59.ntmps Tryd.f59.results.toList (bodyOf Tryd.f59) (.seq .leaf (.seq .leaf (.seq (.seq .leaf (.blk (.loop ⟨[(3,.rww 1 1),(9,.h (.ti .i64))],[5,6,10,11,12,13,14,15,16,17,18,19,20,21,22,23,24,25,26,27,28],[(1,.ls .tu)],[],[0]⟩ [(.exit 0,⟨[(3,.rww 1 1)],[5,6,9,10,11,12,13,14,15,16,17,18,19,20,21,22,23,24,25,26,27,28],[(1,.ls .tu)],[],[0]⟩)] (.join ⟨[(10,.h .tb)],[],[],[],[]⟩ (.reg [(0,{split:=true})]) (.seq .leaf (.join ⟨[(3,.rww 2 1)],[5,11,12,13,14,15,16,17,18,19,20,21,22,23,24,25,26,27],[(2,.ls .tu)],[],[1]⟩ (.blk (.seq .leaf (.join ⟨[(14,.h .tb)],[13],[],[],[]⟩ (.reg [(1,{split:=true,con:=0})]) .leaf))) .leaf)))))) .leaf))) [.h (.tl .tu)] (.h .ts) a = script_quoted a:=by kernel_rfl
noncomputable def script_quoted_c:PCon En:=⟨59,[.h (.tl .tu)],.h .ts,fun a=>script_quoted a,Tryd.call59,fun a v h=>DF_ok rfl En_mixed rfl En_ok Tryd.func59 rfl rfl (by decide) ((script_quoted_dq a).trans h)⟩
theorem script_words_dq (a:HT (Sh.hss [.st (.tp (.ti .i64) K5605)])):DF En GT (cl [itoa_c,script_quoted_c] []) Tryd.f35.ntmps Tryd.f35.results.toList (bodyOf Tryd.f35) (.seq .leaf (.seq .leaf (.seq .leaf (.join ⟨[(4,.h .ts)],[5,6,7,8,9,10],[],[],[]⟩ (.seq .leaf (.blk (.join ⟨[(7,.h .tb)],[8],[],[],[]⟩ (.reg [(1,{split:=true})]) (.cond .leaf (.join ⟨[(9,.h .tb)],[10],[],[],[]⟩ (.reg [(1,{split:=true})]) .leaf))))) (.seq (.seq .leaf (.blk (.join ⟨[(13,.h .tb)],[14],[],[],[]⟩ (.reg [(1,{split:=true})]) (.cond (.seq (.reg [(3,{con:=0})]) .leaf) (.join ⟨[(22,.h .tb)],[23],[],[],[]⟩ (.reg [(1,{split:=true})]) (.cond (.seq (.reg [(3,{con:=0})]) .leaf) (.join ⟨[(29,.h .tb)],[30],[],[],[]⟩ (.reg [(1,{split:=true})]) (.cond (.seq (.reg [(3,{con:=0})]) .leaf) (.join ⟨[(38,.h .tb)],[39],[],[],[]⟩ (.reg [(1,{split:=true})]) (.cond (.seq (.reg [(2,{con:=1})]) .leaf) (.join ⟨[(44,.h .tb)],[45],[],[],[]⟩ (.reg [(1,{split:=true})]) (.cond (.seq (.seq .leaf (.blk (.join ⟨[(49,.h .tb)],[50],[],[],[]⟩ (.reg [(1,{split:=true})]) (.cond (.seq (.reg [(3,{con:=0}),(9,{con:=1})]) .leaf) (.join ⟨[(62,.h .tb)],[63],[],[],[]⟩ (.reg [(1,{split:=true})]) (.cond (.seq (.reg [(3,{con:=0}),(10,{con:=0}),(17,{con:=0})]) .leaf) (.join ⟨[(83,.h .tb)],[84],[],[],[]⟩ (.reg [(1,{split:=true})]) (.cond (.seq (.reg [(3,{con:=0})]) .leaf) .leaf)))))))) (.seq (.reg [(3,{con:=0})]) .leaf)) (.join ⟨[(95,.h .tb)],[96],[],[],[]⟩ (.reg [(1,{split:=true})]) (.cond (.seq (.reg [(3,{con:=0})]) .leaf) (.join ⟨[(102,.h .tb)],[103],[],[],[]⟩ (.reg [(1,{split:=true})]) (.cond (.seq (.reg [(3,{con:=0})]) .leaf) (.join ⟨[(109,.h .tb)],[110],[],[],[]⟩ (.reg [(1,{split:=true})]) (.cond (.seq (.reg [(3,{con:=0}),(9,{con:=0})]) .leaf) (.join ⟨[(122,.h .tb)],[123],[],[],[]⟩ (.reg [(1,{split:=true})]) (.cond (.seq (.reg [(3,{con:=0}),(9,{con:=0})]) .leaf) .leaf)))))))))))))))))))) (.seq (.join ⟨[(137,.h .tb)],[135,136],[],[],[]⟩ (.reg [(2,{split:=true})]) (.cond (.seq (.reg [(3,{con:=0}),(9,{con:=0}),(14,{con:=1})]) .leaf) .leaf)) (.seq (.reg [(3,{con:=0}),(9,{con:=0}),(14,{con:=1})]) .leaf))))))) [.st (.tp (.ti .i64) K5605)] (.h .ts) a = script_words a:=by kernel_rfl
noncomputable def script_words_c:PCon En:=⟨35,[.st (.tp (.ti .i64) K5605)],.h .ts,fun a=>script_words a,Tryd.call35,fun a v h=>DF_ok rfl En_mixed rfl En_ok Tryd.func35 rfl rfl (by decide) ((script_words_dq a).trans h)⟩
theorem script_same_dq (a:HT (Sh.hss [.st (.tp (.ti .i64) K5605),.st (.tp (.ti .i64) K5605)])):DF En GT noC Tryd.f36.ntmps Tryd.f36.results.toList (bodyOf Tryd.f36) (.seq .leaf (.seq (.reg [(5,{split:=true}),(12,{split:=true}),(19,{split:=true}),(26,{split:=true}),(33,{split:=true}),(42,{split:=true}),(51,{split:=true}),(62,{split:=true}),(71,{split:=true})]) .leaf)) [.st (.tp (.ti .i64) K5605),.st (.tp (.ti .i64) K5605)] (.h .tb) a = script_same a.1 a.2:=by kernel_rfl
noncomputable def script_same_c:PCon En:=⟨36,[.st (.tp (.ti .i64) K5605),.st (.tp (.ti .i64) K5605)],.h .tb,fun a=>script_same a.1 a.2,Tryd.call36,fun a v h=>DF_ok rfl En_mixed rfl En_ok Tryd.func36 rfl rfl (by decide) ((script_same_dq a).trans h)⟩
theorem script_Line_dq (a:HT (Sh.hss [.st (.tp (.ti .i64) K5605)])):DF En GT (cl [script_words_c,script_parse_c,script_same_c] []) Tryd.f22.ntmps Tryd.f22.results.toList (bodyOf Tryd.f22) (.seq .leaf (.seq (.join ⟨[(17,.h .tb)],[7,8,9,10,11,12,13,14,15,16],[],[],[]⟩ (.reg [(4,{split:=true}),(10,{split:=true})]) .leaf) (.seq (.reg [(1,{con:=0})]) (.seq (.seq (.reg [(1,{con:=1})]) (.join ⟨[(32,.h .tb)],[25,26,27,28,29,30,31],[],[],[]⟩ (.reg [(2,{split:=true}),(5,{con:=2}),(7,{split:=true})]) .leaf)) .leaf)))) [.st (.tp (.ti .i64) K5605)] (.tup [.h .ts,.h .tb]) a = script_Line a:=by kernel_rfl
noncomputable def script_Line_c:PCon En:=⟨22,[.st (.tp (.ti .i64) K5605)],.tup [.h .ts,.h .tb],fun a=>script_Line a,Tryd.call22,fun a v h=>DF_ok rfl En_mixed rfl En_ok Tryd.func22 rfl rfl (by decide) ((script_Line_dq a).trans h)⟩
theorem script_Fault_Error_dq (a:HT (Sh.hss [.h (.tq (.tp (.ti .i64) (.te 71)))])):DF En GT (cl [isE_c,itoa_c] []) Tryd.f17.ntmps Tryd.f17.results.toList (bodyOf Tryd.f17) (.seq .leaf (.seq (.join ⟨[(12,.h .tb)],[4,5,6,7,8,9,10,11],[],[],[]⟩ (.reg [(2,{split:=true}),(8,{split:=true})]) .leaf) (.seq .leaf (.join ⟨[(3,.h .ts)],[13,14,15,16,17,18,19,20,21,22,23,24,25,26,27,28,29,30,31,32,33,34,35,36,37,38,39,40,41,42,43,44,45,46,47],[],[],[]⟩ (.blk (.join ⟨[(13,.h .tb)],[14,15,16,17,18,19],[],[],[]⟩ (.reg [(5,{con:=0}),(6,{split:=true})]) (.cond .leaf (.join ⟨[(20,.h .tb)],[21,22,23,24,25,26],[],[],[]⟩ (.reg [(5,{con:=0}),(6,{split:=true})]) (.cond .leaf (.join ⟨[(27,.h .tb)],[28,29,30,31,32,33],[],[],[]⟩ (.reg [(5,{con:=0}),(6,{split:=true})]) (.cond .leaf (.join ⟨[(34,.h .tb)],[35,36,37,38,39,40],[],[],[]⟩ (.reg [(5,{con:=0}),(6,{split:=true})]) (.cond .leaf (.join ⟨[(41,.h .tb)],[42,43,44,45,46,47],[],[],[]⟩ (.reg [(5,{con:=0}),(6,{split:=true})]) .leaf)))))))))) (.seq (.reg [(4,{con:=1})]) .leaf))))) [.h (.tq (.tp (.ti .i64) (.te 71)))] (.h .ts) a = script_Fault_Error a:=by kernel_rfl
noncomputable def script_Fault_Error_c:PCon En:=⟨17,[.h (.tq (.tp (.ti .i64) (.te 71)))],.h .ts,fun a=>script_Fault_Error a,Tryd.call17,fun a v h=>DF_ok rfl En_mixed rfl En_ok Tryd.func17 rfl rfl (by decide) ((script_Fault_Error_dq a).trans h)⟩
theorem orielref12_Digits_dq (a:HT (Sh.hss [.h (.ti .i64)])):DF En GT noC Tryd.f19.ntmps Tryd.f19.results.toList (bodyOf Tryd.f19) (.seq .leaf (.seq .leaf (.seq (.blk (.loop ⟨[(0,.h (.ti .i64)),(3,.h .ts)],[4,5,6,7,8,9,10,11,12,13,14,15],[],[],[]⟩ [(.exit 0,⟨[(0,.h (.ti .i64)),(3,.h .ts)],[4,5,6,7,8,9,10,11,12,13,14,15],[],[],[]⟩)] (.seq (.join ⟨[(5,.h .tb)],[4],[],[],[]⟩ (.reg [(1,{split:=true})]) .leaf) .leaf))) .leaf))) [.h (.ti .i64)] (.h .ts) a = orielref12_Digits a:=by kernel_rfl
noncomputable def orielref12_Digits_c:PCon En:=⟨19,[.h (.ti .i64)],.h .ts,fun a=>orielref12_Digits a,Tryd.call19,fun a v h=>DF_ok rfl En_mixed rfl En_ok Tryd.func19 rfl rfl (by decide) ((orielref12_Digits_dq a).trans h)⟩
theorem orielref34_What_dq (a:HT (Sh.hss [.h (.ti .i64)])):DF En GT noC Tryd.f31.ntmps Tryd.f31.results.toList (bodyOf Tryd.f31) (.seq .leaf (.seq (.reg [(2,{sel:=true})]) .leaf)) [.h (.ti .i64)] (.h .ts) a = orielref34_What a:=by kernel_rfl
noncomputable def orielref34_What_c:PCon En:=⟨31,[.h (.ti .i64)],.h .ts,fun a=>orielref34_What a,Tryd.call31,fun a v h=>DF_ok rfl En_mixed rfl En_ok Tryd.func31 rfl rfl (by decide) ((orielref34_What_dq a).trans h)⟩
theorem oriellaw34_told_dq (a:HT (Sh.hss [.h (.to 35 (.tp (.ti .i64) (.te 71)))])):DF En GT (cl [oriellaw34_fault_c,script_Fault_Error_c,orielref12_Digits_c,orielref34_What_c] [asFa_c]) Tryd.f16.ntmps Tryd.f16.results.toList (bodyOf Tryd.f16) (.seq .leaf (.seq .leaf (.seq (.join ⟨[(13,.h .tb)],[6,7,8,9,10,11,12],[],[(0,0,.h (.tq (.tp (.ti .i64) (.te 71))))],[]⟩ (.reg [(2,{io:=some 0}),(4,{split:=true}),(7,{split:=true})]) .leaf) (.seq (.reg [(1,{con:=0})]) (.seq (.reg [(2,{split:=true}),(4,{con:=1}),(6,{con:=2}),(10,{con:=3})]) .leaf))))) [.h (.to 35 (.tp (.ti .i64) (.te 71)))] (.h .tb) a = oriellaw34_told a:=by kernel_rfl
noncomputable def oriellaw34_told_c:PCon En:=⟨16,[.h (.to 35 (.tp (.ti .i64) (.te 71)))],.h .tb,fun a=>oriellaw34_told a,Tryd.call16,fun a v h=>DF_ok rfl En_mixed rfl En_ok Tryd.func16 rfl rfl (by decide) ((oriellaw34_told_dq a).trans h)⟩
theorem oriellaw34_known_dq (a:HT (Sh.hss [])):DF En GT (cl [script_Parse_c,oriellaw34_fault_c,script_Line_c,oriellaw34_told_c] []) Tryd.f11.ntmps Tryd.f11.results.toList (bodyOf Tryd.f11) (.seq .leaf (.seq (.reg [(0,{con:=0})]) (.seq (.reg [(0,{con:=0})]) (.seq (.reg [(0,{con:=0})]) (.seq (.reg [(1,{con:=1})]) (.seq (.reg [(1,{con:=1})]) (.seq (.reg [(1,{con:=2})]) (.seq (.reg [(2,{split:=true}),(7,{split:=true}),(15,{split:=true}),(19,{split:=true}),(23,{split:=true}),(27,{split:=true}),(31,{split:=true}),(34,{split:=true}),(38,{split:=true}),(40,{con:=3}),(42,{split:=true}),(44,{con:=3})]) .leaf)))))))) [] (.h .tb) a = oriellaw34_known_raw:=by kernel_rfl
noncomputable def oriellaw34_known_c:PCon En:=⟨11,[],.h .tb,fun a=>oriellaw34_known,Tryd.call11,fun a v h=>DF_ok rfl En_mixed rfl En_ok Tryd.func11 rfl rfl (by decide) ((oriellaw34_known_dq a).trans (oriellaw34_known_law  h))⟩
theorem orielref21_Same_dq (a:HT (Sh.hss [.st K636e,.st K636e])):DF En GT noC Tryd.f53.ntmps Tryd.f53.results.toList (bodyOf Tryd.f53) (.seq .leaf (.seq (.join ⟨[(21,.h .tb)],[8,9,10,11,12,13,14,15,16,17,18,19,20],[],[],[]⟩ (.reg [(5,{split:=true}),(13,{split:=true})]) .leaf) (.seq (.seq .leaf (.blk (.loop ⟨[(5,.h (.ti .i64))],[6,7,22,23,24,25,26,27,28,29,30,31,32,33,34,35,36,37,38,39,40,41,42,43,44,45,46,47,48,49,50,51,52,53,54,55,56,57,58,59,60,61,62,63,64,65,66],[],[],[]⟩ [(.ret,⟨[(4,.k (.bool false))],[5,6,7,22,23,24,25,26,27,28,29,30,31,32,33,34,35,36,37,38,39,40,41,42,43,44,45,46,47,48,49,50,51,52,53,54,55,56,57,58,59,60,61,62,63,64,65,66],[],[],[]⟩),(.exit 0,⟨[],[5,6,7,22,23,24,25,26,27,28,29,30,31,32,33,34,35,36,37,38,39,40,41,42,43,44,45,46,47,48,49,50,51,52,53,54,55,56,57,58,59,60,61,62,63,64,65,66],[],[],[]⟩)] (.seq (.join ⟨[(26,.h .tb)],[22,23,24,25],[],[],[]⟩ (.reg [(4,{split:=true})]) .leaf) (.seq (.blk (.seq .leaf (.seq .leaf (.join ⟨[(66,.h .tb)],[39,40,41,42,43,44,45,46,47,48,49,50,51,52,53,54,55,56,57,58,59,60,61,62,63,64,65],[],[],[]⟩ (.reg [(5,{split:=true}),(12,{split:=true}),(19,{split:=true}),(27,{split:=true})]) .leaf)))) .leaf))))) .leaf))) [.st K636e,.st K636e] (.h .tb) a = orielref21_Same a.1 a.2:=by kernel_rfl
noncomputable def orielref21_Same_c:PCon En:=⟨53,[.st K636e,.st K636e],.h .tb,fun a=>orielref21_Same a.1 a.2,Tryd.call53,fun a v h=>DF_ok rfl En_mixed rfl En_ok Tryd.func53 rfl rfl (by decide) ((orielref21_Same_dq a).trans h)⟩
theorem orielref34_Same_dq (a:HT (Sh.hss [.st (.tp (.ti .i64) K5605),.st (.tp (.ti .i64) K5605)])):DF En GT (cl [orielref21_Same_c] []) Tryd.f29.ntmps Tryd.f29.results.toList (bodyOf Tryd.f29) (.seq .leaf (.seq (.reg [(5,{split:=true}),(12,{split:=true}),(19,{split:=true}),(26,{split:=true}),(33,{split:=true}),(42,{split:=true}),(46,{fz:=[(50,.tp (.ti .i64) K6f24)]}),(50,{fz:=[(54,.tp (.ti .i64) K6f24)]}),(51,{con:=0})]) .leaf)) [.st (.tp (.ti .i64) K5605),.st (.tp (.ti .i64) K5605)] (.h .tb) a = orielref34_Same a.1 a.2:=by kernel_rfl
noncomputable def orielref34_Same_c:PCon En:=⟨29,[.st (.tp (.ti .i64) K5605),.st (.tp (.ti .i64) K5605)],.h .tb,fun a=>orielref34_Same a.1 a.2,Tryd.call29,fun a v h=>DF_ok rfl En_mixed rfl En_ok Tryd.func29 rfl rfl (by decide) ((orielref34_Same_dq a).trans h)⟩
theorem oriellaw34_alike_dq (a:HT (Sh.hss [.h (.tl (.tp (.ti .i64) K5605)),.h (.tl (.tp (.ti .i64) K5605))])):DF En GT (cl [orielref34_Same_c] []) Tryd.f14.ntmps Tryd.f14.results.toList (bodyOf Tryd.f14) (.seq .leaf (.seq (.join ⟨[(10,.h .tb)],[6,7,8,9],[],[],[]⟩ (.reg [(4,{split:=true})]) .leaf) (.seq (.seq .leaf (.blk (.loop ⟨[(5,.h (.ti .i64))],[11,12,13,14,15,16,17,18,19,20,21,22,23,24,25,26],[],[],[]⟩ [(.ret,⟨[(4,.k (.bool false))],[5,11,12,13,14,15,16,17,18,19,20,21,22,23,24,25,26],[],[],[]⟩),(.exit 0,⟨[],[5,11,12,13,14,15,16,17,18,19,20,21,22,23,24,25,26],[],[],[]⟩)] (.seq (.join ⟨[(14,.h .tb)],[11,12,13],[],[],[]⟩ (.reg [(3,{split:=true})]) .leaf) (.seq (.blk (.join ⟨[(26,.h .tb)],[17,18,19,20,21,22,23,24,25],[],[],[]⟩ (.reg [(8,{con:=0}),(9,{split:=true})]) .leaf)) .leaf))))) .leaf))) [.h (.tl (.tp (.ti .i64) K5605)),.h (.tl (.tp (.ti .i64) K5605))] (.h .tb) a = oriellaw34_alike a.1 a.2:=by kernel_rfl
noncomputable def oriellaw34_alike_c:PCon En:=⟨14,[.h (.tl (.tp (.ti .i64) K5605)),.h (.tl (.tp (.ti .i64) K5605))],.h .tb,fun a=>oriellaw34_alike a.1 a.2,Tryd.call14,fun a v h=>DF_ok rfl En_mixed rfl En_ok Tryd.func14 rfl rfl (by decide) ((oriellaw34_alike_dq a).trans h)⟩
theorem oriellaw34_ScriptFirst_dq (a:HT (Sh.hss [.h .ts,.h .ts])):DF En GT (cl [oriellaw34_known_c,script_Parse_c,oriellaw34_fault_c,oriellaw34_alike_c] []) Tryd.f5.ntmps Tryd.f5.results.toList (bodyOf Tryd.f5) (.seq .leaf (.seq (.join ⟨[(19,.h .tb)],[18],[],[],[]⟩ (.reg [(0,{con:=0}),(1,{split:=true})]) .leaf) (.seq (.join ⟨[(27,.h .tb)],[20,21,22,23,24,25,26],[],[],[]⟩ (.reg [(3,{split:=true}),(7,{split:=true})]) .leaf) (.seq (.reg [(1,{con:=1})]) (.seq (.reg [(3,{con:=1})]) (.seq (.reg [(1,{con:=2})]) (.seq (.reg [(1,{con:=2})]) (.seq (.join ⟨[(51,.h .tb)],[50],[],[],[]⟩ (.reg [(1,{split:=true})]) (.cond (.join ⟨[(13,.h .tb)],[52,53,54,55,56,57,58,59,60,61,62],[],[],[]⟩ (.reg [(3,{split:=true})]) (.seq (.reg [(2,{split:=true}),(6,{split:=true}),(9,{split:=true}),(14,{split:=true}),(19,{split:=true})]) .leaf)) .leaf)) (.seq (.reg [(1,{con:=1})]) (.seq (.join ⟨[(94,.h .tb)],[93],[],[],[]⟩ (.reg [(1,{split:=true})]) (.cond (.seq (.reg [(2,{split:=true}),(9,{con:=3})]) .leaf) .leaf)) (.seq (.reg [(1,{con:=2})]) (.seq (.reg [(2,{split:=true}),(10,{split:=true}),(14,{split:=true})]) .leaf)))))))))))) [.h .ts,.h .ts] (.h .tb) a = oriellaw34_ScriptFirst a.1 a.2:=by kernel_rfl
noncomputable def oriellaw34_ScriptFirst_c:PCon En:=⟨5,[.h .ts,.h .ts],.h .tb,fun a=>oriellaw34_ScriptFirst a.1 a.2,Tryd.call5,fun a v h=>DF_ok rfl En_mixed rfl En_ok Tryd.func5 rfl rfl (by decide) ((oriellaw34_ScriptFirst_dq a).trans h)⟩
end Go.SH
namespace Go.SH
open Go.RowKit
/-- Arguments that nobody writes. -/
def av0:Nat → Prop:=avo (fun _=>False) sig0 []
theorem av0_no (β:Nat):¬ av0 β:=by
  rintro (h | h)
  · exact h
  · exact avz h
/-- A law's run: it answers true, and what was there stays. -/
theorem law_calls {E:Env} {f:FuncId} {args:List PV} (h:Pure E f args (.bool true)) (w:World) (cargs:Array Value) (hl:cargs.size = args.length)
    (hv:∀ (i:Nat) (x:PV) (u:Value),args[i]? = some x → cargs[i]? = some u → VR w sig0 av0 x u)
    (hg:∀ g cells,lget E.G g = some cells → VR w sig0 av0 (.rop cells 0) (.pointer (some ⟨g,0,none⟩))) :
    Calls E.P f cargs w fun e w'=>e = .returned (.bool true) ∧ Below w.heap.size w w':=by
  have:=h (fun _=>False) w sig0 cargs.toList (by simpa using hl) (fun i x u hx hu=>hv i x u hx (by simpa using hu)) (BR0 fun _ h=>h.elim) hg
  refine this.mono ?_
  rintro e w' ⟨r,c,L',σ',rfl,⟨rfl,rfl⟩,hvr,_,hgr⟩
  cases hvr
  refine ⟨rfl,hgr.out.1,hgr.out.2.2,hgr.out.2.1,hgr.size,fun k hk=>(hgr.keep k hk avz).2⟩
inductive VRs (w:World) (σ:Sig) (av:Nat → Prop):List PV → List Value → Prop where
  | nil:VRs w σ av [] []
  | cons {x:PV} {v:Value} {xs:List PV} {vs:List Value} (h:VR w σ av x v) (r:VRs w σ av xs vs):VRs w σ av (x :: xs) (v :: vs)
theorem VRs.get {w:World} {σ:Sig} {av:Nat → Prop} {xs:List PV} {cs:List Value} (h:VRs w σ av xs cs):xs.length = cs.length ∧ ∀ (i:Nat) (x:PV) (v:Value),xs[i]? = some x → cs[i]? = some v → VR w σ av x v:=by
  induction h with
  | nil=>simp
  | cons h _ ih=>
    refine ⟨by simp [ih.1],fun i x v hx hv=>?_⟩
    cases i with
    | zero=>simp at hx hv;subst hx;subst hv;exact h
    | succ i=>exact ih.2 i x v (by simpa using hx) (by simpa using hv)
/-- A law's run, its arguments one by one. -/
theorem law_calls' {E:Env} {f:FuncId} {args:List PV} (h:Pure E f args (.bool true)) (w:World) (cargs:List Value) (hv:VRs w sig0 av0 args cargs)
    (hg:∀ g cells,lget E.G g = some cells → VR w sig0 av0 (.rop cells 0) (.pointer (some ⟨g,0,none⟩))) :
    Calls E.P f cargs.toArray w fun e w'=>e = .returned (.bool true) ∧ Below w.heap.size w w':=
  law_calls h w cargs.toArray (by simpa using hv.get.1.symm) (fun i x u hx hu=>hv.get.2 i x u hx (by simpa using hu)) hg
end Go.SH
namespace Go.SH
def offsB (P:Program) (tot:Nat):Nat → List Field → Bool
  | o,[]=>o == tot
  | o,f :: r=>(f.offset == o) && offsB P tot (o + P.cellsOf f.type) r
/-- Types that stand for a kind: one, or a struct's, one behind the other. -/
inductive Fit (P:Program):ET → List TypeId → Prop where
  | int {k:IntKind} {τ:TypeId} (h:P.underlying τ = some (.int k)):Fit P (.ti k) [τ]
  | u8 {τ:TypeId} (h:P.underlying τ = some (.int .u8)):Fit P .tu [τ]
  | bool {τ:TypeId} (h:P.underlying τ = some .bool):Fit P .tb [τ]
  | slice {t:ET} {τ e:TypeId} (h:P.underlying τ = some (.slice e)) (hs:P.cellsOf e = t.sz) (f:Fit P t [e]):Fit P (.tl t) [τ]
  | struct {t:ET} {τ:TypeId} {fs:Array Field} (h:P.underlying τ = some (.struct fs)) (ho:offsB P (P.cellsOf τ) 0 fs.toList = true) (f:Fit P t (fs.toList.map (·.type))):Fit P t [τ]
  | array {t:ET} {τ e:TypeId} {n:Nat} (h:P.underlying τ = some (.array n e)) (hz:P.cellsOf τ = n * P.cellsOf e) (f:Fit P t (List.replicate n e)):Fit P t [τ]
  | cons {a c:ET} {τ τ':TypeId} {τs:List TypeId} (f:Fit P a [τ]) (g:Fit P c (τ' :: τs)):Fit P (.tp a c) (τ :: τ' :: τs)
section
variable {H:Type} {enc:TypeId × Value → H} {P:Program} {w:World} {base:Nat} {sp:Nat → Bool} {held:Bool}
variable [SentA]
end
end Go.SH
set_option maxRecDepth 100000
namespace Go.Proofs.YtaildpaandndgaaDoor
open Go.ChangeShapes Go.WideShapes Go.ChangeAt Go.RowKit Go.Joins Go.SH
theorem own:ownKnob Tryd.prog.godebug = none:=by kernel_rfl
theorem laidOut:laidOutB Tryd.prog = true:=by kernel_rfl
def laidL:List (String × DataW Unit):=Rows.scriptParsesRow.laid
/-- The settled world, its variables laid: the tied ones as the door's run leaves them, the pinned one its table. -/
noncomputable def laidWorld (os:Os):World:=
  let w0:=World.doorLaid Tryd.prog 400 os
  { w0 with heap:=w0.heap.modify 8 fun
      | .cells _ t frozen=>.cells (Go.Lib.firstTab.map fun z=>Value.int .u8 z).toArray t frozen
      | o=>o }
theorem laid_nd (os:Os) (args:Array Value):laidMet Tryd.prog (laidL.filter fun x=>x.2.handleName?.isNone) ((laidWorld os).forCall (fun _ _=>0) ⟨#[],args,[]⟩).memory:=
  laidMet_of_run' 8 (by kernel_rfl) (by kernel_rfl)
theorem laid_h (os:Os) (args:Array Value):(laidL.filter fun x=>x.2.handleName?.isSome && x.2.funcsIn?.isNone).all (handleAtB Tryd.prog ((laidWorld os).forCall (fun _ _=>0) ⟨#[],args,[]⟩).memory) = true:=by kernel_rfl
theorem door_met (os:Os) (args:Array Value):laidMetH Tryd.prog laidL ((laidWorld os).forCall (fun _ _=>0) ⟨#[],args,[]⟩).memory:=
  laidMetH_of_parts3 (fuel:=8) (laid_nd os args) (laid_h os args) (by kernel_rfl)
end Go.Proofs.YtaildpaandndgaaDoor
set_option maxRecDepth 100000
namespace Go.SH
open Go.RowKit Go.ChangeShapes
theorem var_heap {P:Program} {W:World} {n:String} {cs:Array Value} {g:Nat} (h:W.var? P n = some cs) (hg:P.globalNamed n = some g):∃ T fr,W.heap[g]? = some (.cells cs T fr):=by
  unfold World.var? at h
  rw [hg] at h
  simp only [Option.bind_some] at h
  split at h
  · rename_i c T fr e
    simp at h;subst h
    exact ⟨T,fr,e⟩
  · cases h
theorem rop1 {W:World} {g:Nat} {x:PV} {v:Value} {c:Array Value} {T:TypeId} {fr:Nat × Nat} (hh:W.heap[g]? = some (.cells c T fr)) (h0:c[0]? = some v) (hv:VR W sig0 av0 x v) :
    VR W sig0 av0 (.rop [x] 0) (.pointer (some ⟨g,0,none⟩)):=
  .rop (add:=0) [v] ⟨(Array.getElem?_eq_some_iff.1 hh).1,av0_no _,fun i u hi=>by
    cases i with
    | zero=>simp at hi;subst hi;simp [World.cell?,hh,h0]
    | succ i=>simp at hi⟩ rfl fun i y u hy hu=>by
    cases i with
    | zero=>simp at hy hu;subst hy;subst hu;exact hv
    | succ i=>simp at hy
abbrev RowsOk (P:Program) (W:World) (ps:List MemPlace):Prop:=
  ∀ b off,MemPlace.cell b off ∈ ps → (∃ c t,W.heap[b]? = some (.cells c t (0,0))) ∧ ∀ u v,W.cell? ⟨b,off,none⟩ = some (.iface u v) → Value.okWide P W .any 0 u v
theorem RowsOk.right {P:Program} {W:World} {p q:List MemPlace} (h:RowsOk P W (p ++ q)):RowsOk P W q:=fun b off hm=>h b off (List.mem_append_right _ hm)
theorem pop_skip {P:Program} {W:World} {n:String} {d:DataW Unit} {r:List (String × DataW Unit)} {ps:List MemPlace} (h:DataW.LaidVars P W ((n,d) :: r) ps):∃ p q,DataW.LaidVars P W r q ∧ ps = p ++ q:=by
  obtain ⟨g,t,cs,fuel,p,q,_,_,_,_,hq,rfl⟩:=h
  exact ⟨_,q,hq,rfl⟩
theorem pop_sent {P:Program} {W:World} {n nm:String} {text:List UInt8} {r:List (String × DataW Unit)} {ps:List MemPlace} {g:Nat} {ti tp te ts:TypeId} {ms:Array (String × TypeId)} {f:Field}
    (hr:RowsOk P W ps)
    (hg:P.globalNamed n = some g) (ht:(P.globals[g]?).map (·.type) = some ti) (hi:P.underlying ti = some (.interface ms)) (hrow:∀ u,P.typeName? 3 u = some nm → u = tp)
    (hp:P.underlying tp = some (.pointer te)) (he:P.underlying te = some (.struct #[f])) (hft:f.type = ts) (hfo:f.offset = 0) (hs:P.underlying ts = some .string) (hc:P.cellsOf te = 1) (hcs:P.cellsOf ts = 1)
    (h:DataW.LaidVars P W ((n,.iface nm (.ptr (.agg [.lit (.string text)]))) :: r) ps) :
    ∃ (a:Addr) (q:List MemPlace),W.var? P n = some #[.iface tp (.pointer (some a))] ∧ (∃ c t,W.heap[a.block]? = some (.cells c t (0,0))) ∧ DataW.LaidVars P W r q ∧ ps = [.cell g 0,.cell a.block a.off] ++ q:=by
  obtain ⟨g0,t0,cs0,f0,p0,q0,hg0,ht0,hv0,hd0,hq,rfl⟩:=h
  obtain rfl:=Option.some.inj (hg.symm.trans hg0)
  obtain rfl:=Option.some.inj (ht.symm.trans ht0)
  obtain ⟨l0⟩:=cs0
  have ok0:∀ u v,l0 = [.iface u v] → Value.okWide P W .any 0 u v:=fun u v e=>by
    subst e
    exact (hr g 0 (by simp [MemPlace.row])).2 u v (by simpa using World.var?_cell hg0 hv0 0)
  obtain ⟨a0,s0,rfl,hc0,hs0,hz0,rfl⟩:=errorString_of_trod hi hrow hp he hft hfo hs hc hcs hd0 ok0
  exact ⟨a0,q0,hv0,(hr a0.block a0.off (by simp [MemPlace.row])).1,hq,by simp [MemPlace.row]⟩
theorem ne_of_places {a b:Addr} (h:MemPlace.cell a.block a.off ≠ MemPlace.cell b.block b.off):a ≠ b:=fun e=>h (by rw [e])
end Go.SH
namespace Go.Proofs.YtaildpaandndgaaDoor
open Go.ChangeShapes Go.WideShapes Go.ChangeAt Go.RowKit Go.Joins Go.SH
theorem star:"*" ++ "errors.errorString" = "*errors.errorString":=by decide
theorem row71 (u:TypeId) (h:Tryd.prog.typeName? 3 u = some "*errors.errorString"):u = 71:=
  typeName_ptr_named (nm:="errors.errorString") (by rw [star];kernel_rfl) (by kernel_rfl) (by decide) u (by rw [star];exact h)
theorem g0:Tryd.prog.globalNamed "oriel/script.ErrText" = some 0:=by kernel_rfl
theorem g1:Tryd.prog.globalNamed "oriel/script.ErrWord" = some 1:=by kernel_rfl
theorem g2:Tryd.prog.globalNamed "oriel/script.ErrEnd" = some 2:=by kernel_rfl
theorem g3:Tryd.prog.globalNamed "oriel/script.ErrLong" = some 3:=by kernel_rfl
theorem g4:Tryd.prog.globalNamed "oriel/script.ErrNumber" = some 4:=by kernel_rfl
theorem g5:Tryd.prog.globalNamed "errors.errorType" = some 5:=by kernel_rfl
theorem g7:Tryd.prog.globalNamed "internal/strconv.uint64pow10" = some 7:=by kernel_rfl
theorem t7:(Tryd.prog.globals[7]?).map (·.type) = some 166:=by kernel_rfl
theorem rtT:(Tryd.prog.cutTypes.find? (·.1 == "internal/reflectlite.rtype")).map (·.2) = some 121:=by kernel_rfl
theorem oneRow:((List.range 303).filter fun t=>Tryd.prog.rowNamed t [101,114,114,111,114]) = [25]:=by kernel_rfl
theorem size:Tryd.prog.types.size ≤ 303:=of_decide_eq_true (by kernel_rfl)
theorem handle25:typeHandle Tryd.prog 25 = .pointer (some ⟨12,25,none⟩):=by kernel_rfl
/-- One of the five. -/
theorem pop {W:World} {n:String} {g:Nat} {text:List UInt8} {r:List (String × DataW Unit)} {ps:List MemPlace} (hg:Tryd.prog.globalNamed n = some g) (ht:(Tryd.prog.globals[g]?).map (·.type) = some 25) (hr:RowsOk Tryd.prog W ps)
    (h:DataW.LaidVars Tryd.prog W ((n,.iface "*errors.errorString" (.ptr (.agg [.lit (.string text)]))) :: r) ps) :
    ∃ (a:Addr) (q:List MemPlace),(EvA W av0 a ∧ VR W sig0 av0 (.rop [.ev 71 (some a)] 0) (.pointer (some ⟨g,0,none⟩))) ∧ DataW.LaidVars Tryd.prog W r q ∧ ps = [.cell g 0,.cell a.block a.off] ++ q:=by
  obtain ⟨a,q,hv,hb,hq,e⟩:=pop_sent hr hg ht Tryd.underlying25 row71 Tryd.underlying71 Tryd.underlying73 rfl rfl Tryd.underlying9 (by kernel_rfl) (by kernel_rfl) h
  have hE:EvA W av0 a:=⟨av0_no _,hb⟩
  obtain ⟨T,fr,hh⟩:=var_heap hv hg
  exact ⟨a,q,⟨hE,rop1 hh rfl (.ev 71 (some a) fun b e=>by cases e;exact hE)⟩,hq,e⟩
theorem laid_list:laidL.filter (fun x=>x.2.handleName?.isNone) = [("math/bits.deBruijn32tab",Rows.laid_math_bits_deBruijn32tab),("math/bits.deBruijn64tab",Rows.laid_math_bits_deBruijn64tab),
    ("internal/strconv.uint64pow10",Lib.tabData .u64 Lib.pow10Tab),("unicode/utf8.acceptRanges",Rows.laid_unicode_utf8_acceptRanges),
    ("oriel/script.ErrLong",Rows.laid_oriel_script_ErrLong),("oriel/script.ErrWord",Rows.laid_oriel_script_ErrWord),("oriel/script.ErrNumber",Rows.laid_oriel_script_ErrNumber),
    ("oriel/script.ErrText",Rows.laid_oriel_script_ErrText),("oriel/script.ErrEnd",Rows.laid_oriel_script_ErrEnd),("unicode/utf8.first",Rows.laid_unicode_utf8_first)]:=by kernel_rfl
/-- The addresses given, and others beyond the memory. -/
def fOf (a:Nat → Addr) (n:Nat) (i:Nat):Addr:=if i < 5 then a i else ⟨n + i,0,none⟩
theorem fOf_inj {a:Nat → Addr} {n:Nat} (h:∀ i j,i < 5 → j < 5 → a i = a j → i = j) (hb:∀ i,i < 5 → (a i).block < n):∀ i j,fOf a n i = fOf a n j → i = j:=by
  intro i j e
  unfold fOf at e
  split at e <;> split at e
  · exact h i j ‹_› ‹_› e
  · have h1:=hb i ‹_›
    rw [e] at h1;simp only at h1;omega
  · have h1:=hb j ‹_›
    rw [← e] at h1;simp only at h1;omega
  · have:=congrArg Addr.block e
    simp only at this;omega
def aOf (a0 a1 a2 a3 a4:Addr):Nat → Addr
  | 0=>a0
  | 1=>a1
  | 2=>a2
  | 3=>a3
  | _=>a4
theorem En_globals {W:World} (h:laidMetH Tryd.prog laidL W) :
    ∃ S:Sent34,∀ g cells,lget (@En S).G g = some cells → VR W sig0 av0 (.rop cells 0) (.pointer (some ⟨g,0,none⟩)):=by
  have h':laidMet Tryd.prog (laidL.filter fun x=>x.2.handleName?.isNone) W ∧ handlesMet Tryd.prog [("errors.errorType",Rows.laid_errors_errorType)] W:=h
  rw [laid_list] at h'
  obtain ⟨⟨ps,hv,hnd,hr⟩,hh⟩:=h'
  have hr:RowsOk Tryd.prog W ps:=hr
  obtain ⟨name,u,ty,e1,e2,e3,e4,e5⟩:=hh _ (List.mem_singleton.2 rfl)
  have en:name = [101,114,114,111,114]:=(Option.some.inj e1).symm
  subst en
  obtain rfl:=Option.some.inj (rtT.symm.trans e2)
  have hm:ty ∈ (List.range 303).filter fun t=>Tryd.prog.rowNamed t [101,114,114,111,114]:=List.mem_filter.2 ⟨List.mem_range.2 (Nat.lt_of_lt_of_le e3 size),e4⟩
  rw [oneRow] at hm
  obtain rfl:=List.mem_singleton.1 hm
  rw [handle25] at e5
  obtain ⟨T5,fr5,hh5⟩:=var_heap e5 g5
  obtain ⟨_,q1,hv1,u1⟩:=pop_skip hv
  obtain ⟨_,q2,hv2,u2⟩:=pop_skip hv1
  obtain ⟨gp,tp,cp,fp,pp,q3,hgp,htp,hvp,hdp,hv3,u3⟩:=hv2
  obtain rfl:=Option.some.inj (g7.symm.trans hgp)
  obtain rfl:=Option.some.inj (t7.symm.trans htp)
  have hcp:cp.toList = Lib.pow10Tab.map fun z=>Value.int .u64 z:=Lib.cells_of_tab (k:=.u64) Tryd.underlying166 Tryd.underlying155 (by kernel_rfl) (by kernel_rfl) hdp
  obtain ⟨T7,fr7,hh7⟩:=var_heap hvp g7
  obtain ⟨_,q4,hv4,u4⟩:=pop_skip hv3
  have r1:RowsOk Tryd.prog W q1:=(u1 ▸ hr).right
  have r2:RowsOk Tryd.prog W q2:=(u2 ▸ r1).right
  have r3:RowsOk Tryd.prog W q3:=(u3 ▸ r2).right
  have r4:RowsOk Tryd.prog W q4:=(u4 ▸ r3).right
  obtain ⟨a3,q5,k3,hv5,u5⟩:=pop g3 (by kernel_rfl) r4 hv4
  have r5:RowsOk Tryd.prog W q5:=(u5 ▸ r4).right
  obtain ⟨a1,q6,k1,hv6,u6⟩:=pop g1 (by kernel_rfl) r5 hv5
  have r6:RowsOk Tryd.prog W q6:=(u6 ▸ r5).right
  obtain ⟨a4,q7,k4,hv7,u7⟩:=pop g4 (by kernel_rfl) r6 hv6
  have r7:RowsOk Tryd.prog W q7:=(u7 ▸ r6).right
  obtain ⟨a0,q8,k0,hv8,u8⟩:=pop g0 (by kernel_rfl) r7 hv7
  have r8:RowsOk Tryd.prog W q8:=(u8 ▸ r7).right
  obtain ⟨a2,q9,k2,hv9,u9⟩:=pop g2 (by kernel_rfl) r8 hv8
  have n1:q1.Nodup:=(List.nodup_append.1 (u1 ▸ hnd)).2.1
  have n2:q2.Nodup:=(List.nodup_append.1 (u2 ▸ n1)).2.1
  have n3:q3.Nodup:=(List.nodup_append.1 (u3 ▸ n2)).2.1
  have n4:q4.Nodup:=(List.nodup_append.1 (u4 ▸ n3)).2.1
  rw [u5,u6,u7,u8,u9] at n4
  simp only [List.cons_append,List.nil_append,List.nodup_cons,List.mem_cons,not_or] at n4
  obtain ⟨_,⟨_,d31,_,d34,_,d30,_,d32,_⟩,_,⟨_,d14,_,d10,_,d12,_⟩,_,⟨_,d40,_,d42,_⟩,_,⟨_,d02,_⟩,_⟩:=n4
  have d31:=ne_of_places d31
  have d34:=ne_of_places d34
  have d30:=ne_of_places d30
  have d32:=ne_of_places d32
  have d14:=ne_of_places d14
  have d10:=ne_of_places d10
  have d12:=ne_of_places d12
  have d40:=ne_of_places d40
  have d42:=ne_of_places d42
  have d02:=ne_of_places d02
  have hb:∀ i,i < 5 → (aOf a0 a1 a2 a3 a4 i).block < W.heap.size:=fun i hi=>
    match i,hi with
    | 0,_=>k0.1.lt
    | 1,_=>k1.1.lt
    | 2,_=>k2.1.lt
    | 3,_=>k3.1.lt
    | 4,_=>k4.1.lt
  have hi:∀ i j,i < 5 → j < 5 → aOf a0 a1 a2 a3 a4 i = aOf a0 a1 a2 a3 a4 j → i = j:=by
    intro i j hi hj e
    rcases i with _ | _ | _ | _ | _ | i
    all_goals try omega
    all_goals rcases j with _ | _ | _ | _ | _ | j
    all_goals try omega
    all_goals try rfl
    all_goals simp only [aOf] at e
    all_goals first | exact absurd e d31 | exact absurd e.symm d31 | exact absurd e d34 | exact absurd e.symm d34 | exact absurd e d30 | exact absurd e.symm d30 | exact absurd e d32 | exact absurd e.symm d32 | exact absurd e d14 | exact absurd e.symm d14 | exact absurd e d10 | exact absurd e.symm d10 | exact absurd e d12 | exact absurd e.symm d12 | exact absurd e d40 | exact absurd e.symm d40 | exact absurd e d42 | exact absurd e.symm d42 | exact absurd e d02 | exact absurd e.symm d02
  refine ⟨⟨fOf (aOf a0 a1 a2 a3 a4) W.heap.size,fOf_inj hi hb⟩,fun g cells hg=>?_⟩
  simp only [En,gtPV,GT,SentA.extra,List.map_cons,List.map_nil,List.cons_append,List.nil_append,lget] at hg
  split at hg
  · rename_i e;subst e;simp at hg;subst hg;exact k0.2
  split at hg
  · rename_i e;subst e;simp at hg;subst hg;exact k1.2
  split at hg
  · rename_i e;subst e;simp at hg;subst hg;exact k2.2
  split at hg
  · rename_i e;subst e;simp at hg;subst hg;exact k3.2
  split at hg
  · rename_i e;subst e;simp at hg;subst hg;exact k4.2
  split at hg
  · rename_i e;subst e;simp at hg;subst hg
    exact rop1 hh5 rfl (.xc 5 errT T5 fr5 _ rfl (av0_no _) (by simpa [errT] using hh5))
  split at hg
  · rename_i e;subst e;simp at hg;subst hg
    have hcp':cp = p10T.toArray:=by apply Array.toList_inj.1;rw [hcp];rfl
    subst hcp'
    exact rop1 (v:=.int .u64 1) hh7 (by kernel_rfl) (.xc 7 p10T T7 fr7 _ rfl (av0_no _) hh7)
  simp at hg
end Go.Proofs.YtaildpaandndgaaDoor
set_option maxRecDepth 100000
namespace Go.SH
abbrev KEv:ET:=.tp (.ti .i64) K5605
end Go.SH
namespace Go.Proofs.YtaildpaandndgaaDoor
open Go.ChangeShapes Go.WideShapes Go.ChangeAt Go.RowKit Go.Joins Go.SH
section
variable {H:Type} {enc:TypeId × Value → H} {W:World} {base:Nat} {v:Value} {d:DataW H} {p:List MemPlace}
theorem open_str (hval:Value.okWide Tryd.prog W .any base 9 v) (h:DataW.Trod enc Tryd.prog W 0 (fun _=>true) true 9 v d p):∃ l:List UInt8,VR W sig0 av0 (.str l) v:=by
  obtain ⟨s,rfl,_,_,_⟩:=Go.ChangeMaps.open_string Tryd.underlying9 hval h
  exact ⟨s.data.toList,.str _⟩
variable [Sent34]
end
end Go.Proofs.YtaildpaandndgaaDoor
set_option maxRecDepth 100000
namespace Go.Proofs.YtaildpaandndgaaDoor
open Go Go.ChangeShapes Go.WideShapes Go.ChangeAt Go.RowKit Go.Joins Go.SH
theorem law_pure [Sent34] (a0:List UInt8) (a1:List UInt8):Pure En 5 [.str a0,.str a1] (.bool true):=
  oriellaw34_ScriptFirst_c.ok (a0,a1) true (first_true a0 a1)
theorem law_lifted (os:Os) (started:os.Started) (H:Type) (enc:TypeId × Value → H) :
    ReturnsInHanded {} Tryd.checked os 5 .any (fun w args=>(Rows.scriptFirstSpec.pre enc Tryd.prog Tryd.f5 [] false w args ∧ laidMetH Tryd.prog laidL w) ∧ sizedMet enc Tryd.prog Tryd.f5 (OpenSpec.ofChange Rows.scriptFirstSpec) false w args)
      (Rows.scriptFirstSpec.post enc Tryd.prog Tryd.f5 false true false false):=by
  refine returnsInHanded_of_change_and (C:=Tryd.checked) (X:=fun w _=>laidMetH Tryd.prog laidL w) (fun _ _ _ hh h=>h.of_heap hh) own started (by kernel_rfl) Tryd.func5
    (ChangeSpec.witness_shaped (enc:=enc) (C:=Tryd.checked) (os:=os) (X:=fun w _=>laidMetH Tryd.prog laidL w) false (laidWorld os) #[.string ⟨#[]⟩,.string ⟨#[]⟩] 8 rfl (World.shaped_of_RefB (by kernel_rfl) (by kernel_rfl)) (by kernel_rfl) (by kernel_rfl) (by kernel_rfl) (door_met os _)) ?_
  intro W base args ds gs before hval0 hW _ _ hL _
  have hval:∀ (j:Nat) t v,Tryd.f5.params[j]? = some t → args[j]? = some v → Value.okWide Tryd.prog W .any base t v:=hval0
  have hW':=hW
  obtain ⟨p,q,hA0,hV,rfl,hfz,hnd⟩:=hW
  have hA:DataW.TrodAll enc Tryd.prog W 0 (fun _=>true) true Tryd.f5.params.toList args.toList ds p:=hA0
  rw [Tryd.params5] at hA hval
  obtain ⟨v0,vs0,d0,ds0,p0,q0,ha0,rfl,rfl,h0,hA⟩:=trodAll_cons hA
  obtain ⟨v1,vs1,d1,ds1,p1,q1,rfl,rfl,rfl,h1,hA⟩:=trodAll_cons hA
  obtain ⟨rfl,rfl,rfl⟩:=trodAll_nil hA
  have hargs:args = #[v0,v1]:=by
    apply Array.toList_inj.1;rw [ha0]
  subst hargs
  obtain ⟨rfl,rfl⟩:=trodVars_none hV
  have ltp:∀ {t:TypeId} {v:Value} {d:DataW H} {p:List MemPlace},DataW.Trod enc Tryd.prog W 0 (fun _=>true) true t v d p → ∀ x ∈ p,x.block < W.heap.size:=fun h=>by obtain ⟨m,hm⟩:=h;exact DataW.trod_lt m _ _ _ hm
  obtain ⟨S,hS⟩:=En_globals hL
  letI:Sent34:=S
  obtain ⟨n0,hv0⟩:=open_str (hval 0 9 v0 rfl rfl) h0
  obtain ⟨n1,hv1⟩:=open_str (hval 1 9 v1 rfl rfl) h1
  refine (law_calls' (law_pure n0 n1) W [v0,v1]
    (.cons hv0 (.cons hv1 .nil)) hS).mono fun e W' ⟨he,bel⟩=>?_
  subst he
  exact ⟨_,rfl,_,_,_,[],_,[],hW',trodAll_mk1 (shut_bool Tryd.underlying4 _),
    (trodAll_cons_mk (Below.trod laidOut (by kernel_rfl) (of_decide_eq_true (by kernel_rfl)) h0 bel (ltp h0)) (trodAll_cons_mk (Below.trod laidOut (by kernel_rfl) (of_decide_eq_true (by kernel_rfl)) h1 bel (ltp h1)) trodAll_mk0)),rfl,bel.frame _,fun h=>by cases h⟩
theorem law_row:Rows.ScriptFirstSaid:=
  OpenClaim.holds_of_wide 5 Tryd.f5 rfl rfl rfl rfl rfl rfl rfl ⟨rfl,rfl,rfl,rfl,rfl⟩ rfl rfl rfl rfl rfl (by kernel_rfl) Tryd.func5 (by kernel_rfl)
    (of_decide_eq_true (by kernel_rfl)) (by unfold Func.isWrapper;first | (rw [if_pos (by decide +kernel)];kernel_rfl) | (rw [if_neg (by decide +kernel)];exact ⟨rfl,rfl⟩))
    (fun os started H enc _=>law_lifted os started H enc)
theorem script_first_holds:Rows.ScriptFirstCardSaid:=
  Claim7.holds_tied_plain_at .later [] [.data,.data,.data,.data,.handle,.sentinel,.sentinel,.sentinel,.sentinel,.sentinel,.pinned] true (true,"697d90f6e5e2e597adb7f51ee71aadf481d62156e225e93a54c51917f338d07c") true
    law_row (fun _ h=>by cases h) (by kernel_rfl) (fun _ h=>by cases h) scriptFirst_row_tie rfl ⟨rfl,rfl⟩ (by kernel_rfl) rfl
    (fun f fn hf hfn=>by
      obtain rfl:f = 5:=Option.some.inj ((show Tryd.prog.funcNamed "oriel/oriellaw34.ScriptFirst" = some 5 by kernel_rfl).symm.trans hf) |>.symm
      obtain rfl:fn = Tryd.f5:=(Option.some.inj (Tryd.func5.symm.trans hfn)).symm
      exact ⟨by kernel_rfl,fun j t ht=>by
        rw [Tryd.params5] at ht
        have hm:t ∈ [9,9]:=by simpa using Array.mem_of_getElem? ht
        have hall:([9,9].all fun u=>!Tryd.prog.wantsStandIn u) = true:=by kernel_rfl
        exact (show Tryd.prog.wantsStandIn t = false by simpa using List.all_eq_true.1 hall t hm)⟩)
    (by kernel_rfl)
end Go.Proofs.YtaildpaandndgaaDoor
